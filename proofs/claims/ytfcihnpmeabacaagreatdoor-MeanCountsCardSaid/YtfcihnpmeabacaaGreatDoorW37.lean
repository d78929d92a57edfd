/- Texts IW, VU, JE, laid together. -/
import Derived.Test.YtfcihnpmeabacaaGreatDoorW17
import Derived.Test.YtfcihnpmeabacaaGreatDoorW4
import Derived.Test.YtfcihnpmeabacaaGreatDoorW32
import Derived.Test.YtfcihnpmeabacaaGreatDoorW36
import Derived.ProofKit
import Derived.OpenShut
import Derived.Deep.Slices
import Derived.Lib.SmallJoins
namespace Go.Proofs.YtfcihnpmeabacaaGreatDoor
open Go.RowKit
theorem Sl.upSw {ok:Nat→Prop} {w:World} {A:Option Addr} {n c:Nat} {l:List Sy} (h:Sl SyE ok w A n c l):Sl SiE ok w A n c (l.map embS):=by
 obtain ⟨h1,h2,raw,h3,h4,h5⟩:=h;have e:raw=l:=List.ext_getElem (by omega) fun i a b=>h5 i _ _ (List.getElem?_eq_getElem a) (List.getElem?_eq_getElem b)
 have ef:∀ l:List Sy,flat SiE (l.map embS)=flat SyE l:=fun l=>by
  induction l with
  | nil=>rfl
  | cons x l ih=>simp only [flat,List.map_cons,List.flatMap_cons] at ih ⊢; rw [ih]; rfl
 refine ⟨by rw [List.length_map]; exact h1,h2,l.map embS,by rw [List.length_map]; exact h1,?_,fun i r x hr hx=>by rw [hr] at hx; exact Option.some.inj hx⟩;rw [e,← ef] at h4; exact h4
theorem Sl.upR {ok:Nat→Prop} {w:World} {A:Option Addr} {n c:Nat} {l:List Ru} (h:Sl RuE ok w A n c l):Sl RiE ok w A n c (l.map embR):=by
 obtain ⟨h1,h2,raw,h3,h4,h5⟩:=h
 have ef:∀ raw:List (Nat×SlV),flat RiE (raw.map fun r=>((r.1:Int),r.2))=flat RuE raw:=fun raw=>by
  induction raw with
  | nil=>rfl
  | cons x l ih=>simp only [flat,List.map_cons,List.flatMap_cons] at ih ⊢; rw [ih]; rfl
 refine ⟨by rw [List.length_map]; exact h1,h2,raw.map fun r=>((r.1:Int),r.2),by rw [List.length_map]; exact h3,by rw [ef]; exact h4,fun i r x hr hx=>?_⟩;rw [List.getElem?_map] at hr hx;obtain ⟨r0,hr0,rfl⟩:=Option.map_eq_some_iff.1 hr;obtain ⟨x0,hx0,rfl⟩:=Option.map_eq_some_iff.1 hx;obtain ⟨k1,k2⟩:=h5 i r0 x0 hr0 hx0;exact ⟨by simp only [embR]; rw [k1],Sl.upSw k2⟩
theorem Ints.slLt {w:World} {A:Option Addr} {n c:Nat} {xs:List Int} (h:Ints w A n c xs):Sl InE (fun b=>b < w.heap.size) w A n c xs:=by
 rcases Nat.eq_zero_or_pos n with h0 | h0
 ·have hx:xs=[]:=List.eq_nil_of_length_eq_zero (by rw [h.1,h0]);subst hx;exact ⟨h.1,h.2.1,[],h.1,fun hne=>absurd rfl hne,fun i r x hr=>by simp at hr⟩
 ·obtain ⟨b,off,e,hc⟩:=h.2.2 h0;refine h.slE.mono fun b' _ hb=>?_
  obtain ⟨o,ho⟩:=hb;rw [e] at ho;have e1:b=b':=(by injection ho with ho; injection ho);rw [← e1];exact World.block_lt_of_cell? _ _ (hc 0 h0)
def PickP (ok:Nat→Prop) (w:World) (e:Ending) (w':World):Prop :=
 ∃ (T N S:Int) (A:Option Addr) (n c:Nat) (rs:List Ri) (wA:Option Addr) (wn wc:Nat) (xs:List Int),e=.returned (.tuple #[.agg #[.int .i64 T,.int .i64 N,.int .i64 S,.slice A n c],.slice wA wn wc]) ∧
  Sl RiE (fun b=>ok b∨w.heap.size≤b) w' A n c rs∧Sl InE (fun b=>ok b∨w.heap.size≤b) w' wA wn wc xs∧Below w.heap.size w w'
def PickP2 (ok:Nat→Prop) (ln most:Nat) (w:World) (e:Ending) (w':World):Prop :=
 ∃ (T N S:Int) (A:Option Addr) (n c:Nat) (rs:List Ri) (wA:Option Addr) (wn wc:Nat) (xs:List Int),e=.returned (.tuple #[.agg #[.int .i64 T,.int .i64 N,.int .i64 S,.slice A n c],.slice wA wn wc]) ∧
  Sl RiE (fun b=>ok b∨w.heap.size≤b) w' A n c rs∧Sl InE (fun b=>ok b∨w.heap.size≤b) w' wA wn wc xs∧Below w.heap.size w w' ∧
  (ln≠0→∃ g:Gr,GrOk g∧T=(g.terms:Int)∧N=(g.nons:Int)∧S=(g.start:Int)∧rs=g.rules.map embR∧(∀ x∈xs,0≤x∧x < T)∧xs.length≤most)
theorem MadeG.grOk9 {g:Gr} (h:MadeG g):GrOk g :=
 ⟨⟨⟨h.terms.1,by have:=h.terms.2; omega⟩,⟨h.nons.1,by have:=h.nons.2; omega⟩,h.start,by have:=h.count; omega,fun r hr=>(h.ok r hr).1,fun r hr=>⟨by have:=(h.ok r hr).2.1; omega,fun s hs=>(h.ok r hr).2.2 s hs⟩⟩,h.nodup⟩
set_option maxRecDepth 100000 in
set_option maxHeartbeats 4000000 in
theorem pick2_c (ok:Nat→Prop) (T N S:Int) (A:Option Addr) (n c:Nat) (rs:List Ri) (wA:Option Addr) (wn wcp:Nat) (xs:List Int) (lA:Option Addr) (ln lc:Nat) (ls:List Int) (most:Nat) (w:World) (hl:Sl RiE ok w A n c rs) (hx:Sl InE ok w wA wn wcp xs) (hls:Ints w lA ln lc ls) (hm:most≤1000000) :
 Calls Tryz.prog 6 #[.agg #[.int .i64 T,.int .i64 N,.int .i64 S,.slice A n c],.slice wA wn wcp,.slice lA ln lc,.int .i64 (most:Int)] w (PickP2 ok ln most w):=by
 have hal:=((Below.refl w.heap.size w).al (.cells #[.int .i64 T,.int .i64 N,.int .i64 S,.slice A n c] 24)).al (.cells #[.int .i64 0,.int .i64 0,.int .i64 0,.slice none 0 0] 24);have BG:=(Blk.new w 24 #[.int .i64 T,.int .i64 N,.int .i64 S,.slice A n c]).al (.cells #[.int .i64 0,.int .i64 0,.int .i64 0,.slice none 0 0] 24);have BR:=Blk.newAt (w.alloc (.cells #[.int .i64 T,.int .i64 N,.int .i64 S,.slice A n c] 24)) 24 #[.int .i64 0,.int .i64 0,.int .i64 0,.slice none 0 0] (w.heap.size+1) (by simp);have HL:=Lib.hid ((hl.mono (ok':=fun b=>(ok b∨w.heap.size≤b)∧b≠w.heap.size+1∧b≠w.heap.size) (fun b hb h=>⟨Or.inl h,by omega,by omega⟩)).via hal);have HX:=Lib.hid ((hx.mono (ok':=fun b=>(ok b∨w.heap.size≤b)∧b≠w.heap.size+1∧b≠w.heap.size) (fun b hb h=>⟨Or.inl h,by omega,by omega⟩)).via hal);have HLS:=Lib.hid (hls.via hal);have HAL:=Lib.hid hal;have HSZ:=Lib.hid (show ((w.alloc (.cells #[.int .i64 T,.int .i64 N,.int .i64 S,.slice A n c] 24)).alloc (.cells #[.int .i64 0,.int .i64 0,.int .i64 0,.slice none 0 0] 24)).heap.size=w.heap.size+2 by simp);clear hl hx hal;clear hls;go_enter Tryz.func6,Tryz.ntmps6;go_upto_region 1 with fail;generalize (w.alloc (.cells #[.int .i64 T,.int .i64 N,.int .i64 S,.slice A n c] 24)).alloc (.cells #[.int .i64 0,.int .i64 0,.int .i64 0,.slice none 0 0] 24)=W2 at *;have HBG:=Lib.hid BG;have HBR:=Lib.hid BR
 by_cases hn:ln=0
 ·have e1:((ln:Int)==0)=true:=(by simp [hn]);have cBG:=BG.cell;have fBG:=BG.frozen;have lBG:=BG.lt;have cBR:=BR.cell;have fBR:=BR.frozen;have lBR:=BR.lt;go_wp2_with fail;refine bodyPost_ret (v:=.tuple #[.agg #[.int .i64 T,.int .i64 N,.int .i64 S,.slice A n c],.slice wA wn wcp]) (by simp [results,Tryz.results6,go_sem,cBR]) rfl ⟨T,N,S,A,n,c,rs,wA,wn,wcp,xs,rfl,?_,?_,?_,fun h=>absurd hn h⟩
  ·exact (HL.out.agr ((((Agr.setCell (p:=⟨w.heap.size+1,0,none⟩) _ fun b hb=>hb.2.1).trans (Agr.setCell (p:=⟨w.heap.size+1,1,none⟩) _ fun b hb=>hb.2.1)).trans (Agr.setCell (p:=⟨w.heap.size+1,2,none⟩) _ fun b hb=>hb.2.1)).trans (Agr.setCell (p:=⟨w.heap.size+1,3,none⟩) _ fun b hb=>hb.2.1))).mono fun _ _ h=>h.1
  ·exact (HX.out.agr ((((Agr.setCell (p:=⟨w.heap.size+1,0,none⟩) _ fun b hb=>hb.2.1).trans (Agr.setCell (p:=⟨w.heap.size+1,1,none⟩) _ fun b hb=>hb.2.1)).trans (Agr.setCell (p:=⟨w.heap.size+1,2,none⟩) _ fun b hb=>hb.2.1)).trans (Agr.setCell (p:=⟨w.heap.size+1,3,none⟩) _ fun b hb=>hb.2.1))).mono fun _ _ h=>h.1
  ·exact (((HAL.out.setCell (by simp) _).setCell (by simp) _).setCell (by simp) _).setCell (by simp) _
 ·have e1:((ln:Int)==0)=false:=(by simp [hn]);have cBG:=BG.cell;have fBG:=BG.frozen;have lBG:=BG.lt;go_wp2_with fail;clear cBG fBG lBG;refine (grammar_c lA ln lc ls W2 HLS.out).mono ?_;rintro e w3 ⟨g,gA,gn,gc,rfl,hmg,hgl,hb3⟩;have HG3:=Lib.hid (HBG.out.via hb3);have HR3:=Lib.hid (HBR.out.via hb3);have HA3:=Lib.hid (HAL.out.trans (hb3.mono HAL.out.size));have HX3:=Lib.hid (HX.out.via hb3);have HGL:=Lib.hid (hgl.mono (ok':=fun b=>(ok b∨w.heap.size≤b)∧b≠w.heap.size+1∧b≠w.heap.size) fun b _ hb=>by have h:W2.heap.size≤b:=hb; have:=HSZ.out; exact ⟨Or.inr (by omega),by omega,by omega⟩);have HMG:=Lib.hid hmg;have BG3:=HG3.out;clear hgl hb3 HL HX HLS HAL HBG HBR BG BR hmg;simp only [grVal];have cBG3:=BG3.cell;have fBG3:=BG3.frozen;have lBG3:=BG3.lt;go_upto_region 4 with fail;clear cBG3 fBG3 lBG3
  have HG4:=Lib.hid (show Blk ((((w3.setCell ⟨w.heap.size,0,none⟩ (.int .i64 (g.terms:Int))).setCell ⟨w.heap.size,1,none⟩ (.int .i64 (g.nons:Int))).setCell ⟨w.heap.size,2,none⟩ (.int .i64 (g.start:Int))).setCell ⟨w.heap.size,3,none⟩ (.slice gA gn gc)) w.heap.size 24 #[.int .i64 (g.terms:Int),.int .i64 (g.nons:Int),.int .i64 (g.start:Int),.slice gA gn gc] from by
   have:=(((BG3.set_ 0 (.int .i64 (g.terms:Int))).set_ 1 (.int .i64 (g.nons:Int))).set_ 2 (.int .i64 (g.start:Int))).set_ 3 (.slice gA gn gc); simpa using this)
  have hag:Agr (fun b=>(ok b∨w.heap.size≤b)∧b≠w.heap.size+1∧b≠w.heap.size) w3 ((((w3.setCell ⟨w.heap.size,0,none⟩ (.int .i64 (g.terms:Int))).setCell ⟨w.heap.size,1,none⟩ (.int .i64 (g.nons:Int))).setCell ⟨w.heap.size,2,none⟩ (.int .i64 (g.start:Int))).setCell ⟨w.heap.size,3,none⟩ (.slice gA gn gc)):=((((Agr.setCell (p:=⟨w.heap.size,0,none⟩) _ fun b hb=>hb.2.2).trans (Agr.setCell (p:=⟨w.heap.size,1,none⟩) _ fun b hb=>hb.2.2)).trans (Agr.setCell (p:=⟨w.heap.size,2,none⟩) _ fun b hb=>hb.2.2)).trans (Agr.setCell (p:=⟨w.heap.size,3,none⟩) _ fun b hb=>hb.2.2));have HR4:=Lib.hid ((((HR3.out.far (p:=⟨w.heap.size,0,none⟩) (by simp) (.int .i64 (g.terms:Int))).far (p:=⟨w.heap.size,1,none⟩) (by simp) (.int .i64 (g.nons:Int))).far (p:=⟨w.heap.size,2,none⟩) (by simp) (.int .i64 (g.start:Int))).far (p:=⟨w.heap.size,3,none⟩) (by simp) (.slice gA gn gc));have HA4:=Lib.hid ((((HA3.out.setCell (p:=⟨w.heap.size,0,none⟩) (by simp) (.int .i64 (g.terms:Int))).setCell (p:=⟨w.heap.size,1,none⟩) (by simp) (.int .i64 (g.nons:Int))).setCell (p:=⟨w.heap.size,2,none⟩) (by simp) (.int .i64 (g.start:Int))).setCell (p:=⟨w.heap.size,3,none⟩) (by simp) (.slice gA gn gc));have HX4:=Lib.hid (HX3.out.agr hag);have HL4:=Lib.hid ((Sl.upR HGL.out).agr hag);clear hag BG3 HG3 HR3 HA3 HX3 HGL;generalize (((w3.setCell ⟨w.heap.size,0,none⟩ (.int .i64 (g.terms:Int))).setCell ⟨w.heap.size,1,none⟩ (.int .i64 (g.nons:Int))).setCell ⟨w.heap.size,2,none⟩ (.int .i64 (g.start:Int))).setCell ⟨w.heap.size,3,none⟩ (.slice gA gn gc)=w4 at *;have BG4:=HG4.out;have BR4:=HR4.out;have SO:=Lib.hid (show ∀ w',Agr (fun b=>b≠w.heap.size+1) w4 w'→((∀ i,w'.cell? ⟨w.heap.size,i,none⟩=#[.int .i64 (g.terms:Int),.int .i64 (g.nons:Int),.int .i64 (g.start:Int),.slice gA gn gc][i]?)∧Agr (fun b=>b≠w.heap.size+1) w4 w') from fun w' hb=>⟨(show Blk w' w.heap.size 24 _ from (hb _ (by omega) HG4.out.lt).trans HG4.out).cell,hb⟩);have HN:=Lib.hid (show ∀ w',Agr (fun b=>b≠w.heap.size+1) w4 w'→Calls Tryz.prog 24 #[.int .i64 (g.terms:Int),.int .i64 (most:Int),.slice wA wn wcp] w' (WordPost w' (g.terms:Int) most xs) from fun w' hb=>word_c _ most wA wn wcp xs w' (HX4.out.agr (hb.mono fun b hb=>hb.2.1)).intsIn (by have:=HMG.out.terms.1; omega) (by have:=HMG.out.terms.2; omega) hm);have hb0:Agr (fun b=>b≠w.heap.size+1) w4 w4.drew:=Agr.below ((Below.refl w4.heap.size w4).drew);have BD4:=BR4.dr;have hst:∀ w',Agr (fun b=>b≠w.heap.size+1) w4 w'→Agr (fun b=>b≠w.heap.size+1) w4 ((((w'.setCell ⟨w.heap.size+1,0,none⟩ (.int .i64 (g.terms:Int))).setCell ⟨w.heap.size+1,1,none⟩ (.int .i64 (g.nons:Int))).setCell ⟨w.heap.size+1,2,none⟩ (.int .i64 (g.start:Int))).setCell ⟨w.heap.size+1,3,none⟩ (.slice gA gn gc)):=fun w' h=>(((h.trans (Agr.setCell (p:=⟨w.heap.size+1,0,none⟩) _ fun b hb=>hb)).trans (Agr.setCell (p:=⟨w.heap.size+1,1,none⟩) _ fun b hb=>hb)).trans (Agr.setCell (p:=⟨w.heap.size+1,2,none⟩) _ fun b hb=>hb)).trans (Agr.setCell (p:=⟨w.heap.size+1,3,none⟩) _ fun b hb=>hb)
  have HST:=Lib.hid hst;have HBD:=Lib.hid BD4;clear hst BR4 BG4;have cBD4:=BD4.cell;have fBD4:=BD4.frozen;have lBD4:=BD4.lt
  go_region_held3 (fun w'=>(∀ i,w'.cell? ⟨w.heap.size,i,none⟩=#[.int .i64 (g.terms:Int),.int .i64 (g.nons:Int),.int .i64 (g.start:Int),.slice gA gn gc][i]?)∧Agr (fun b=>b≠w.heap.size+1) w4 w') (exact SO.out _ (by first | assumption | exact HST.out _ hb0 | exact HST.out _ hbm)) (first
   | (go_at_call 24; (with_reducible refine (HN.out w4.drew hb0).mono ?_); rintro ee wn ⟨vW,kW,rfl,how,hbn⟩; have hbm:Agr (fun b=>b≠w.heap.size+1) w4 wn:=Agr.trans hb0 (Agr.below hbn); have BDn:=HBD.out.via hbn; have cBDn:=BDn.cell; have fBDn:=BDn.frozen; have lBDn:=BDn.lt)
   | (go_at_call 24; (with_reducible refine (HN.out _ (HST.out _ hb0)).mono ?_); rintro ee wn ⟨vW,kW,rfl,how,hbn⟩; have hbm:Agr (fun b=>b≠w.heap.size+1) w4 wn:=Agr.trans (HST.out _ hb0) (Agr.below hbn)))
  obtain ⟨vA,vc,rfl,-⟩:=how.form;have HA9:=Lib.hid (HA4.out.trans (((Below.refl w4.heap.size w4).drew.via hbn).mono HA4.out.size));have how2:=(((how.setCell (p:=⟨w.heap.size+1,0,none⟩) lBD4 (.int .i64 (g.terms:Int))).setCell (p:=⟨w.heap.size+1,1,none⟩) lBD4 (.int .i64 (g.nons:Int))).setCell (p:=⟨w.heap.size+1,2,none⟩) lBD4 (.int .i64 (g.start:Int))).setCell (p:=⟨w.heap.size+1,3,none⟩) lBD4 (.slice gA gn gc)
  have HW9:=Lib.hid (how2.toInts.slE.mono (ok':=fun b=>ok b∨w.heap.size≤b) fun b _ hb=>by
   obtain ⟨o,ho⟩:=hb;have h1:=(how2.block _ ho).1;have h2:=HA4.out.size;simp at h1
   exact Or.inr (by omega))
  have hagN:=HST.out wn hbm;have HL9:=Lib.hid (HL4.out.agr (hagN.mono fun b hb=>hb.2.1));clear how how2 hbn hbm hagN fBD4 lBD4 cBD4 BD4 HBD HST SO HN;go_wp2_with fail;refine bodyPost_ret (v:=.tuple #[.agg #[.int .i64 (g.terms:Int),.int .i64 (g.nons:Int),.int .i64 (g.start:Int),.slice gA gn gc],.slice vA kW vc]) (by simp [results,Tryz.results6,go_sem,cBDn]) rfl ⟨_,_,_,gA,gn,gc,g.rules.map embR,vA,kW,vc,wordI (g.terms:Int) most xs,rfl,HL9.out.mono fun _ _ h=>h.1,HW9.out,?_,fun _=>⟨g,HMG.out.grOk9,rfl,rfl,rfl,rfl,wordI_mem _ _ _ (by have:=HMG.out.terms.1; omega),wordI_len _ _ _⟩⟩;exact (((HA9.out.setCell (by simp) _).setCell (by simp) _).setCell (by simp) _).setCell (by simp) _
theorem pick_c (ok:Nat→Prop) (T N S:Int) (A:Option Addr) (n c:Nat) (rs:List Ri) (wA:Option Addr) (wn wcp:Nat) (xs:List Int) (lA:Option Addr) (ln lc:Nat) (ls:List Int) (most:Nat) (w:World) (hl:Sl RiE ok w A n c rs) (hx:Sl InE ok w wA wn wcp xs) (hls:Ints w lA ln lc ls) (hm:most≤1000000) :
 Calls Tryz.prog 6 #[.agg #[.int .i64 T,.int .i64 N,.int .i64 S,.slice A n c],.slice wA wn wcp,.slice lA ln lc,.int .i64 (most:Int)] w (PickP ok w) :=
 (pick2_c ok T N S A n c rs wA wn wcp xs lA ln lc ls most w hl hx hls hm).mono fun _ _ ⟨T,N,S,A,n,c,rs,wA,wn,wc,xs,h1,h2,h3,h4,_⟩=>⟨T,N,S,A,n,c,rs,wA,wn,wc,xs,h1,h2,h3,h4⟩
end Go.Proofs.YtfcihnpmeabacaaGreatDoor
namespace Go.Proofs.YtfcihnpmeabacaaGreatDoor
open Go.RowKit
theorem chkB_okC {T N S:Int} {rs:List Ri} {xs:List Int} (h:chkB T N S rs xs=0):chkG T N S rs=0∧xs.length≤12∧∀ x∈xs,0≤x∧x < T:=by
 unfold chkB at h
 by_cases hG:chkG T N S rs=0
 ·rw [if_pos hG] at h;unfold chkW at h
  split at h
  ·cases h
  ·rename_i hl
   split at h
   ·cases h
   ·rename_i ha
    refine ⟨hG,by omega,fun x hx=>?_⟩;have h1:(xs.any fun t=>!okT T t)=false:=(by simpa using ha);rw [List.any_eq_false] at h1;have h2:=h1 x hx;simp [okT] at h2;exact h2
 ·rw [if_neg hG] at h;exact absurd h hG
theorem cof_eq {g:Gr} {xs:List Int} {f:FoI} {q:Int} (hg:g.Ok) (hn:xs.length≤12) (h:WhF g xs f) (hq:CofQ (packsF (dvD g.rules xs) g.rules) (dvD g.rules xs) ((false,g.start),0,xs.length) q):cntV f=q:=by
 obtain ⟨b,h⟩:=h;obtain ⟨-,⟨h1,rfl⟩ | ⟨h1,L,hL,rfl⟩⟩:=fo_whole hg hn h
 ·rcases hq with ⟨-,rfl⟩ | ⟨h2,-⟩
  ·simp [cntV]
  ·rw [h1] at h2; cases h2
 ·rcases hq with ⟨h2,-⟩ | ⟨-,hq⟩
  ·rw [h1] at h2; cases h2
  ·rcases cntV_fo hL ((hL.mem _).2 .root) with ⟨c,h3,h4⟩ | ⟨h3,h4⟩
   ·rcases hq with hq | ⟨hq,-⟩
    ·rw [h4]; exact h3.uniq hq
    ·exact absurd ⟨c,h3⟩ hq
   ·rcases hq with hq | ⟨-,rfl⟩
    ·exact absurd ⟨q,hq⟩ h3
    ·exact h4
set_option maxRecDepth 100000 in
theorem mcount_e (ok:Nat→Prop) (T N S:Int) (A:Option Addr) (n c:Nat) (rs:List Ri) (wA:Option Addr) (wn wc:Nat) (xs:List Int) (w:World) (hl:Sl RiE ok w A n c rs) (hx:Ints w wA wn wc xs) (q:Int) (hq:chkB T N S rs xs=q) (hbad:q≠0) :
 Calls Tryz.prog 7 #[.agg #[.int .i64 T,.int .i64 N,.int .i64 S,.slice A n c],.slice wA wn wc] w fun e w'=>e=.returned (.tuple #[.int .i64 0,.int .i64 q])∧Below w.heap.size w w':=by
 have B0:=Blk.new w 24 #[.int .i64 T,.int .i64 N,.int .i64 S,.slice A n c];have HB:=Lib.hid ((Below.refl w.heap.size w).al (.cells #[.int .i64 T,.int .i64 N,.int .i64 S,.slice A n c] 24));have HL:=Lib.hid (hl.al (.cells #[.int .i64 T,.int .i64 N,.int .i64 S,.slice A n c] 24));have HX:=Lib.hid (hx.alloc (.cells #[.int .i64 T,.int .i64 N,.int .i64 S,.slice A n c] 24));have HQ:=Lib.hid hq;clear hl hx hq;go_enter Tryz.func7,Tryz.ntmps7;have cB0:=B0.cell;have fB0:=B0.frozen;have lB0:=B0.lt;go_wp2_with fail;clear cB0 fB0 lB0;generalize w.alloc (.cells #[.int .i64 T,.int .i64 N,.int .i64 S,.slice A n c] 24)=W at *;have hc:=mcheckB_c ok T N S A n c rs wA wn wc xs W HL.out HX.out;rw [HQ.out] at hc;refine hc.mono ?_;clear hc;rintro e w1 ⟨rfl,hb⟩;have HB1:=Lib.hid (HB.out.via hb);clear hb B0 HB;go_wp2_with fail;go_ret2;exact ⟨rfl,HB1.out⟩
set_option maxRecDepth 100000 in
set_option maxHeartbeats 8000000 in
theorem meanCounts_walk (ok:Nat→Prop) (T0 N0 S0:Int) (A0:Option Addr) (n0 c0:Nat) (rs0:List Ri) (wA0:Option Addr) (wn0 wc0:Nat) (xs0:List Int) (lA:Option Addr) (ln lc:Nat) (ls:List Int) (w:World) (hl:Sl RiE ok w A0 n0 c0 rs0) (hx:Ints w wA0 wn0 wc0 xs0) (hok:∀ b,ok b→b < w.heap.size) (hls:Ints w lA ln lc ls) (hT:TabW w) :
 Calls Tryz.prog 3 #[.agg #[.int .i64 T0,.int .i64 N0,.int .i64 S0,.slice A0 n0 c0],.slice wA0 wn0 wc0,.slice lA ln lc] w fun e w'=>e=.returned (.bool true)∧Below w.heap.size w w':=by
 have hal:=(Below.refl w.heap.size w).al (.cells #[.int .i64 T0,.int .i64 N0,.int .i64 S0,.slice A0 n0 c0] 24);have HPI:=Lib.hid (pick_c (fun b=>b < w.heap.size) T0 N0 S0 A0 n0 c0 rs0 wA0 wn0 wc0 xs0 lA ln lc ls 6 (w.alloc (.cells #[.int .i64 T0,.int .i64 N0,.int .i64 S0,.slice A0 n0 c0] 24)) ((hl.mono fun b _ h=>hok b h).via hal) (hx.slLt.via hal) (hls.via hal) (by omega));have BG:=Blk.new w 24 #[.int .i64 T0,.int .i64 N0,.int .i64 S0,.slice A0 n0 c0];have HAL:=Lib.hid hal;have HT:=Lib.hid hT;have HSZ:=Lib.hid (show (w.alloc (.cells #[.int .i64 T0,.int .i64 N0,.int .i64 S0,.slice A0 n0 c0] 24)).heap.size=w.heap.size+1 by simp);clear hl hx hls hal hok hT;have cBG:=BG.cell;have fBG:=BG.frozen;have lBG:=BG.lt;go_enter Tryz.func3,Tryz.ntmps3;go_wp2_with fail;clear cBG fBG lBG;generalize w.alloc (.cells #[.int .i64 T0,.int .i64 N0,.int .i64 S0,.slice A0 n0 c0] 24)=W0 at *;refine HPI.out.mono ?_;rintro e w1 ⟨T,N,S,A,n,c,rs,wA,wn,wcp,xs,rfl,hl1,hx1,hb1⟩;have BG1:=BG.via hb1;have hne:∀ b,(b < w.heap.size∨W0.heap.size≤b)→b≠w.heap.size:=fun b h=>by have:=HSZ.out; omega
 have HL1:=Lib.hid (hl1.mono (ok':=fun b=>b≠w.heap.size) fun b _ h=>hne b h);have HX1:=Lib.hid (hx1.mono (ok':=fun b=>b≠w.heap.size) fun b _ h=>hne b h);have HA1:=Lib.hid (HAL.out.trans (hb1.mono (by have:=HSZ.out; omega)));clear HPI BG hl1 hx1 hb1 hne HAL HSZ;have cBG1:=BG1.cell;have fBG1:=BG1.frozen;have lBG1:=BG1.lt;go_upto_region 2 with fail;clear cBG1 fBG1 lBG1
 have BG2:Blk ((((w1.setCell ⟨w.heap.size,0,none⟩ (.int .i64 T)).setCell ⟨w.heap.size,1,none⟩ (.int .i64 N)).setCell ⟨w.heap.size,2,none⟩ (.int .i64 S)).setCell ⟨w.heap.size,3,none⟩ (.slice A n c)) w.heap.size 24 #[.int .i64 T,.int .i64 N,.int .i64 S,.slice A n c]:=by
  have:=(((BG1.set_ 0 (.int .i64 T)).set_ 1 (.int .i64 N)).set_ 2 (.int .i64 S)).set_ 3 (.slice A n c); simpa using this
 have hag:Agr (fun b=>b≠w.heap.size) w1 ((((w1.setCell ⟨w.heap.size,0,none⟩ (.int .i64 T)).setCell ⟨w.heap.size,1,none⟩ (.int .i64 N)).setCell ⟨w.heap.size,2,none⟩ (.int .i64 S)).setCell ⟨w.heap.size,3,none⟩ (.slice A n c)):=((((Agr.setCell (p:=⟨w.heap.size,0,none⟩) _ fun b hb=>hb).trans (Agr.setCell (p:=⟨w.heap.size,1,none⟩) _ fun b hb=>hb)).trans (Agr.setCell (p:=⟨w.heap.size,2,none⟩) _ fun b hb=>hb)).trans (Agr.setCell (p:=⟨w.heap.size,3,none⟩) _ fun b hb=>hb));have HA2:=Lib.hid ((((HA1.out.setCell (p:=⟨w.heap.size,0,none⟩) (by simp) (.int .i64 T)).setCell (p:=⟨w.heap.size,1,none⟩) (by simp) (.int .i64 N)).setCell (p:=⟨w.heap.size,2,none⟩) (by simp) (.int .i64 S)).setCell (p:=⟨w.heap.size,3,none⟩) (by simp) (.slice A n c));have HL2:=Lib.hid (HL1.out.agr hag);have HX2:=Lib.hid (HX1.out.agr hag);have HBG2:=Lib.hid BG2;clear hag BG1 HA1 HL1 HX1;generalize (((w1.setCell ⟨w.heap.size,0,none⟩ (.int .i64 T)).setCell ⟨w.heap.size,1,none⟩ (.int .i64 N)).setCell ⟨w.heap.size,2,none⟩ (.int .i64 S)).setCell ⟨w.heap.size,3,none⟩ (.slice A n c)=w2 at *
 by_cases hbad:chkB T N S rs xs=0
 ·obtain ⟨hG0,hxl,hxt⟩:=chkB_okC hbad;obtain ⟨g,hg,rfl,rfl,rfl,rfl⟩:=chkG_ok hG0;have HG:=Lib.hid hg;have HBAD:=Lib.hid hbad;have HXT:=Lib.hid hxt;have hwn:wn≤12:=(by have:=HX2.out.len; omega);have HXL:=Lib.hid (show xs.length=wn from HX2.out.len);clear hg hbad hG0 hxl hxt;have hcy:=mcount_c (fun b=>b≠w.heap.size) g A n c wA wn wcp xs w2 HG.out HL2.out.lowR HX2.out.intsIn hwn HXT.out (HT.out.via HA2.out);simp only [grVal] at hcy;have cBG2:=BG2.cell;have fBG2:=BG2.frozen;have lBG2:=BG2.lt;go_wp2_with fail;clear cBG2 fBG2 lBG2;refine hcy.mono ?_;clear hcy;rintro e w3 ⟨f,hf,rfl,hb3⟩;have HF:=Lib.hid hf;clear hf;have HB3:=Lib.hid hb3;have BG3:=HBG2.out.via hb3;clear hb3 BG2;go_upto_region 3 with fail;have hcb:=refboth_c (fun b=>b≠w.heap.size) g.terms g.nons g.start A n c (g.rules.map embR) wA wn wcp xs w3 (HL2.out.via HB3.out) (HX2.out.intsIn.via HB3.out);rw [HBAD.out] at hcb;have HBG3:=Lib.hid BG3;have cBG3:=BG3.cell;have fBG3:=BG3.frozen;have lBG3:=BG3.lt;go_wp2_with fail;clear cBG3 fBG3 lBG3;refine hcb.mono ?_;clear hcb BG3;rintro e w4 ⟨rfl,hb4⟩;have HB4:=Lib.hid (HB3.out.via hb4);have BG4:=HBG3.out.via hb4;clear hb4 HB3 HBG3;go_upto_region 4 with fail;have HMN:=Lib.hid (means_c w4 (HT.out.via (HA2.out.via HB4.out)));go_wp2_with fail;refine HMN.out.mono ?_;clear HMN;rintro e w5 ⟨rfl,hb5⟩;have HB5:=Lib.hid (HB4.out.via hb5);have BG5:=BG4.via hb5;clear hb5 HB4 BG4;go_upto_region 6 with fail;have hsp:=allspans_c (fun b=>b≠w.heap.size) g A n c wA wn wcp xs w5 HG.out (HL2.out.lowR.via HB5.out) (HX2.out.intsIn.via HB5.out) hwn HXT.out;simp only [grVal] at hsp;have cBG5:=BG5.cell;have fBG5:=BG5.frozen;have lBG5:=BG5.lt;go_wp2_with fail;clear cBG5 fBG5 lBG5;refine hsp.mono ?_;clear hsp BG5;rintro e w6 ⟨bs,bm,rfl,hR,-,-,hb6⟩;have HR:=Lib.hid hR;have HB6:=Lib.hid (HB5.out.via hb6);clear hR hb6 HB5;have HCO:=Lib.hid (countof_c (fun b=>b≠w.heap.size) g A n c wA wn wcp bs bm xs w6 HG.out.ok (HL2.out.lowR.via HB6.out) HR.out hwn HXL.out);go_wp2_with fail;refine HCO.out.mono ?_;clear HCO;rintro e w7 ⟨q,rfl,hq,hb7⟩;have hqe:=cof_eq HG.out.ok (by have:=HXL.out; omega) HF.out (by rw [HXL.out]; exact hq);subst hqe;have HB7:=Lib.hid (HB6.out.via hb7);clear hb7 hq HB6;go_wp2_with fail;go_ret;exact ⟨by simp,HA2.out.via HB7.out⟩
 ·obtain ⟨q,hq⟩:∃ q,chkB T N S rs xs=q:=⟨_,rfl⟩;have hq0:q≠0:=fun e=>hbad (hq.trans e)
  have HQ:=Lib.hid hq;have hae:=mcount_e (fun b=>b≠w.heap.size) T N S A n c rs wA wn wcp xs w2 HL2.out HX2.out.intsIn q hq hq0;have HQ0:=Lib.hid hq0;clear hbad hq;have cBG2:=BG2.cell;have fBG2:=BG2.frozen;have lBG2:=BG2.lt;go_wp2_with fail;clear cBG2 fBG2 lBG2;refine hae.mono ?_;clear hae;rintro e w3 ⟨rfl,hb3⟩;have HB3:=Lib.hid hb3;have BG3:=HBG2.out.via hb3;clear hb3 BG2;go_upto_region 3 with fail;have hcb:=refboth_c (fun b=>b≠w.heap.size) T N S A n c rs wA wn wcp xs w3 (HL2.out.via HB3.out) (HX2.out.intsIn.via HB3.out);rw [HQ.out] at hcb;have cBG3:=BG3.cell;have fBG3:=BG3.frozen;have lBG3:=BG3.lt;go_wp2_with fail;clear cBG3 fBG3 lBG3;refine hcb.mono ?_;clear hcb BG3;rintro e w4 ⟨rfl,hb4⟩;have HB4:=Lib.hid (HB3.out.via hb4);clear hb4 HB3;have HMN:=Lib.hid (means_c w4 (HT.out.via (HA2.out.via HB4.out)));have hb0:(q==0)=false:=(by simpa using hq0);have hb1:(q==q)=true:=(by simp);go_upto_region 5 with fail;go_wp2_with fail;refine HMN.out.mono ?_;clear HMN;rintro e w5 ⟨rfl,hb5⟩;have HB5:=Lib.hid (HB4.out.via hb5);clear hb5 HB4;go_wp2_with fail;go_ret;exact ⟨by simp,HA2.out.via HB5.out⟩
end Go.Proofs.YtfcihnpmeabacaaGreatDoor
namespace Go.Proofs.YtfcihnpmeabacaaGreatDoor
open Go.RowKit
theorem flat_inv {α ρ:Type} {E:Elem α ρ} {raw:List ρ} {q:Nat} {u:Value} (h:(flat E raw)[q]?=some u):∃ i j r,raw[i]?=some r∧(E.cells r)[j]?=some u∧q=i*E.k+j:=by
 have hq:=(List.getElem?_eq_some_iff.1 h).1;rw [flat_len] at hq;have hk:=E.pos;have hi:q / E.k < raw.length:=(Nat.div_lt_iff_lt_mul hk).2 hq;have hj:q % E.k < E.k:=Nat.mod_lt _ hk;have hr:=List.getElem?_eq_getElem hi;have hc:(E.cells (raw[q / E.k]))[q % E.k]?=some ((E.cells (raw[q / E.k]))[q % E.k]'(by rw [E.len]; exact hj)):=List.getElem?_eq_getElem _;have h2:=flat_at raw _ _ _ _ hr hc;have e:q / E.k*E.k+q % E.k=q:=Nat.div_add_mod' q E.k;rw [e,h] at h2;exact ⟨_,_,_,hr,by rw [hc]; exact h2.symm,e.symm⟩
theorem list_two {α:Type} {l:List α} (h:l.length=2):∃ a b,l=[a,b]:=by
 match l,h with
 | [a,b],_=>exact ⟨a,b,rfl⟩
section
variable {H:Type} {enc:TypeId×Value→H} {w:World} {base:Nat} {spare:Nat→Bool} {held:Bool}
theorem open_sl {P:Program} {α ρ:Type} (E:Elem α ρ) {t e:TypeId} {fuel:Nat} {v:Value} {x:DataW H×List MemPlace} (ht:P.underlying t=some (.slice e)) (hk:P.cellsOf e=E.k)
 (ho:∀ n cs y,DataW.trod enc P w base spare held n e cs=some y→∃ r z,cs=E.cells r∧E.rel (fun b=>b < w.heap.size) w r z)
 (h:DataW.trod enc P w base spare held fuel t [v]=some x):∃ A n c l,v=.slice A n c∧Sl E (fun b=>b < w.heap.size) w A n c l:=by
 rcases Deep.open_slice ht h with ⟨hcs,-⟩ | ⟨a,len,cap,m,n,D,Pl,hcs,hb,hl,hm,hmm,-,hel⟩
 ·exact ⟨none,0,0,[],by simpa using hcs,Sl.nil 0⟩
 ·have hlm:len≤m:=(by rw [hmm]; split <;> omega)
  have key:∀ i:Fin len,∃ rz:ρ×α,(∀ j u,(E.cells rz.1)[j]?=some u→w.cell? ((a.add (i*E.k)).add j)=some u)∧E.rel (fun b=>b < w.heap.size) w rz.1 rz.2:=by
   intro i;obtain ⟨cs',h1,h2⟩:=hel i (by have:=i.isLt; omega);obtain ⟨r,z,rfl,hr⟩:=ho _ _ _ h2;refine ⟨(r,z),fun j u hu=>?_,hr⟩;unfold World.cells? at h1
   split at h1
   ·have hj:j < E.k:=(by rw [← E.len r]; exact (List.getElem?_eq_some_iff.1 hu).1);have:=mapM_some_get h1 j j (by rw [hk,List.getElem?_range hj]);rw [hk] at this;rw [this]; exact hu
   ·cases h1
  obtain ⟨f,hf⟩:=Classical.axiomOfChoice key;refine ⟨some a,len,cap,List.ofFn (fun i=>(f i).2),by simpa using hcs,by simp,hl,List.ofFn (fun i=>(f i).1),by simp,fun hne=>?_,fun i r z hr hz=>?_⟩
  ·obtain ⟨b,off,spot⟩:=a
   have hspot:spot=none:=by
    have h0:0 < len:=by
     rcases Nat.eq_zero_or_pos len with h0 | h0
     ·subst h0; exact absurd rfl hne
     ·exact h0
    have hc:=(hf ⟨0,h0⟩).1 0 ((E.cells (f ⟨0,h0⟩).1)[0]'(by rw [E.len]; exact E.pos)) (List.getElem?_eq_getElem _);cases spot with
    | none=>rfl
    | some sp =>
     unfold World.cell? at hc
     split at hc <;> simp [Addr.add] at hc
   subst hspot
   have hcell:∀ j u,(flat E (List.ofFn fun i=>(f i).1))[j]?=some u→w.cell? ⟨b,off+j,none⟩=some u:=fun j u hu=>by
    obtain ⟨i,j',r,hr,hc,rfl⟩:=flat_inv hu;have hi:i < len:=(by have:=(List.getElem?_eq_some_iff.1 hr).1; simpa using this)
    have hr':r=(f ⟨i,hi⟩).1:=by
     rw [List.getElem?_eq_getElem (by simpa using hi)] at hr
     simpa using (Option.some.inj hr).symm
    subst hr';have:=(hf ⟨i,hi⟩).1 j' u hc;rw [Addr.add_lit,Addr.add_lit] at this;rw [← Nat.add_assoc]; exact this
   refine ⟨b,off,rfl,?_,hcell⟩
   obtain ⟨u,hu⟩:∃ u,(flat E (List.ofFn fun i=>(f i).1))[0]?=some u:=by
    cases hfl:flat E (List.ofFn fun i=>(f i).1) with
    | nil=>exact absurd hfl hne
    | cons u l=>exact ⟨u,by simp⟩
   exact World.block_lt_of_cell? w _ (hcell 0 u hu)
  ·have hi:i < len:=(by have:=(List.getElem?_eq_some_iff.1 hr).1; simpa using this);rw [List.getElem?_eq_getElem (by simpa using hi)] at hr hz;have e1:r=(f ⟨i,hi⟩).1:=(by simpa using (Option.some.inj hr).symm);have e2:z=(f ⟨i,hi⟩).2:=(by simpa using (Option.some.inj hz).symm);rw [e1,e2]; exact (hf ⟨i,hi⟩).2
theorem read_int {P:Program} {t:TypeId} (ht:P.underlying t=some (.int .i64)) {fuel:Nat} {cs:List Value} {x:DataW H×List MemPlace} (h:DataW.trod enc P w base spare held fuel t cs=some x):∃ n:Int,cs=[.int .i64 n]∧(Lit.int .i64 n).wf=true:=by
 cases fuel with
 | zero=>simp [DataW.trod] at h
 | succ m =>
  unfold DataW.trod at h;rw [ht] at h
  split at h <;> simp_all
theorem read_bool {P:Program} {t:TypeId} (ht:P.underlying t=some .bool) {fuel:Nat} {cs:List Value} {x:DataW H×List MemPlace} (h:DataW.trod enc P w base spare held fuel t cs=some x):∃ b:Bool,cs=[.bool b]:=by
 cases fuel with
 | zero=>simp [DataW.trod] at h
 | succ m =>
  unfold DataW.trod at h;rw [ht] at h
  split at h <;> simp_all
set_option maxRecDepth 100000 in
theorem open_sym (n:Nat) (cs:List Value) (y:DataW H×List MemPlace) (h:DataW.trod enc Tryz.prog w base spare held n 69 cs=some y):∃ r z,cs=SiE.cells r∧SiE.rel (fun b=>b < w.heap.size) w r z:=by
 obtain ⟨xs,m,-,-,hl,hn,hf⟩:=DataW.trod_struct Tryz.underlying69 h;have hc:Tryz.prog.cellsOf 69=2:=(by kernel_rfl);have hb:Tryz.prog.cellsOf 4=1:=(by kernel_rfl);have hi:Tryz.prog.cellsOf 3=1:=(by kernel_rfl);rw [hc] at hl;obtain ⟨c0,c1,rfl⟩:=list_two hl;have h0:DataW.trod enc Tryz.prog w base spare held m 4 ([c0,c1].take (Tryz.prog.cellsOf 4))=xs[0]?:=hf 0 _ rfl;have h1:DataW.trod enc Tryz.prog w base spare held m 3 ([c1].take (Tryz.prog.cellsOf 3))=xs[1]?:=hf 1 _ rfl;rw [hb] at h0;rw [hi] at h1;simp only [List.take_succ_cons,List.take_zero] at h0 h1;have hn2:xs.length=2:=hn;obtain ⟨b,hb'⟩:=read_bool Tryz.underlying4 (h0.trans (List.getElem?_eq_getElem (by omega)));obtain ⟨k,hk',-⟩:=read_int Tryz.underlying3 (h1.trans (List.getElem?_eq_getElem (by omega)));refine ⟨(b,k),(b,k),?_,rfl⟩;simp at hb' hk';rw [hb',hk']; rfl
set_option maxRecDepth 100000 in
theorem open_rule (n:Nat) (cs:List Value) (y:DataW H×List MemPlace) (h:DataW.trod enc Tryz.prog w base spare held n 74 cs=some y):∃ r z,cs=RiE.cells r∧RiE.rel (fun b=>b < w.heap.size) w r z:=by
 obtain ⟨xs,m,-,-,hl,hn,hf⟩:=DataW.trod_struct Tryz.underlying74 h;have hc:Tryz.prog.cellsOf 74=2:=(by kernel_rfl);have hs:Tryz.prog.cellsOf 72=1:=(by kernel_rfl);have hi:Tryz.prog.cellsOf 3=1:=(by kernel_rfl);rw [hc] at hl;obtain ⟨c0,c1,rfl⟩:=list_two hl;have h0:DataW.trod enc Tryz.prog w base spare held m 3 ([c0,c1].take (Tryz.prog.cellsOf 3))=xs[0]?:=hf 0 _ rfl;have h1:DataW.trod enc Tryz.prog w base spare held m 72 ([c1].take (Tryz.prog.cellsOf 72))=xs[1]?:=hf 1 _ rfl;rw [hi] at h0;rw [hs] at h1;simp only [List.take_succ_cons,List.take_zero] at h0 h1;have hn2:xs.length=2:=hn;obtain ⟨k,hk',-⟩:=read_int Tryz.underlying3 (h0.trans (List.getElem?_eq_getElem (by omega)));obtain ⟨A,n',c,l,hv,hsl⟩:=open_sl SiE Tryz.underlying72 (by kernel_rfl) open_sym (h1.trans (List.getElem?_eq_getElem (by omega)));refine ⟨(k,A,n',c),(k,l),?_,rfl,hsl⟩;simp at hk';rw [hk',hv]; rfl
set_option maxRecDepth 100000 in
theorem open_gram {r:Reach} {b0:Nat} {v:Value} {d:DataW H} {p:List MemPlace} (hv:Value.okWide Tryz.prog w r b0 24 v) (h:DataW.Trod enc Tryz.prog w base spare held 24 v d p) :
 ∃ (T N S:Int) (A:Option Addr) (n c:Nat) (rs:List Ri),v=.agg #[.int .i64 T,.int .i64 N,.int .i64 S,.slice A n c]∧Sl RiE (fun b=>b < w.heap.size) w A n c rs:=by
 obtain ⟨v0,v1,v2,v3,y0,y1,y2,y3,n,rfl,-,-,h0,h1,h2,h3⟩:=Joins.open_agg4 Tryz.underlying24 (by kernel_rfl) (by kernel_rfl) hv h;obtain ⟨T,hT,-⟩:=read_int Tryz.underlying3 h0;obtain ⟨N,hN,-⟩:=read_int Tryz.underlying3 h1;obtain ⟨S,hS,-⟩:=read_int Tryz.underlying3 h2;obtain ⟨A,k,c,l,hv3,hsl⟩:=open_sl RiE Tryz.underlying22 (by kernel_rfl) open_rule h3;simp at hT hN hS;exact ⟨T,N,S,A,k,c,l,by rw [hT,hN,hS,hv3],hsl⟩
end
end Go.Proofs.YtfcihnpmeabacaaGreatDoor
