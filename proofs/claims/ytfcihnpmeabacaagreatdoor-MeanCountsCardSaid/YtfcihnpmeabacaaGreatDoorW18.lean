/- Texts VK, TJ, laid together. -/
import Derived.Test.YtfcihnpmeabacaaGreatDoorW1
import Derived.Test.YtfcihnpmeabacaaGreatDoorW14
import Derived.Test.YtfcihnpmeabacaaGreatDoorW15
import Derived.Test.YtfcihnpmeabacaaGreatDoorW17
import Derived.Test.YtfcihnpmeabacaaGreatDoorW3
namespace Go.Proofs.YtfcihnpmeabacaaGreatDoor
open Go.RowKit
def MofP (w:World) (g:Gr) (xs:List Int) (e:Ending) (w':World):Prop :=
 ∃ f v b,e=.returned v∧IsFo (dvD g.rules xs) g.rules ((false,g.start),0,xs.length) 1099511627776 f b∧FoR (fun b=>w.heap.size≤b) w' v f∧Below w.heap.size w w'
set_option maxRecDepth 100000 in
set_option maxHeartbeats 8000000 in
theorem mof_c (ok:Nat→Prop) (g:Gr) (Ag:Option Addr) (ng cg:Nat) (A:Option Addr) (n c:Nat) (xs:List Int) (w:World) (hg:GrOk g) (hl:Sl RuE ok w Ag ng cg g.rules) (hx:Ints w A n c xs) (hn:n≤12) (hT:TabW w) :
 Calls Tryz.prog 27 #[grVal g Ag ng cg,.slice A n c] w (MofP w g xs):=by
 have hxl:=hx.len;subst hxl;have JE:=Lib.hid (show ∀ w',Below w.heap.size w w'→Calls Tryz.prog 62 #[.agg #[.int .i64 (g.terms:Int),.int .i64 (g.nons:Int),.int .i64 (g.start:Int),.slice Ag ng cg],.slice A xs.length c] w' (EndsP w' g xs) from fun w' h=>ends_c ok g Ag ng cg A _ c xs w' hg (hl.via h) (hx.keep h (Nat.le_refl _)) hn (hT.via h))
 have JB:=Lib.hid (show ∀ w' ob rb E,Below w.heap.size w w'→EnR w' ob g.nons xs.length rb E→SndE g.rules xs E→FixE g.rules xs E→Calls Tryz.prog 61 #[.agg #[.int .i64 (g.terms:Int),.int .i64 (g.nons:Int),.int .i64 (g.start:Int),.slice Ag ng cg],.slice A xs.length c,.slice (some ⟨ob,0,none⟩) g.nons g.nons,.int .i64 1099511627776] w' (BuildP w' (dvD g.rules xs) g.rules ((false,g.start),0,xs.length) 1099511627776) from fun w' ob rb E h hE hs hf=>by
  have h1:=build_c ok g Ag ng cg A xs.length c ob 0 g.nons rb (fun _=>0) (fun _=>xs.length+1) xs E 1099511627776 w' hg.ok (hl.via h) (hx.keep h (Nat.le_refl _)) hE.view (hT.via h) hs.sup hn (Nat.le_refl _);rw [dOf_dv hs hf (by omega)] at h1
  exact h1)
 have hal:=((Below.refl w.heap.size w).al (.cells #[.int .i64 (g.terms:Int),.int .i64 (g.nons:Int),.int .i64 (g.start:Int),.slice Ag ng cg] 24)).al (.cells #[.slice none 0 0,.int .i64 0] 45);have B0:=(Blk.new w 24 #[.int .i64 (g.terms:Int),.int .i64 (g.nons:Int),.int .i64 (g.start:Int),.slice Ag ng cg]).al (.cells #[.slice none 0 0,.int .i64 0] 45);have B1:=Blk.newAt (w.alloc (.cells #[.int .i64 (g.terms:Int),.int .i64 (g.nons:Int),.int .i64 (g.start:Int),.slice Ag ng cg] 24)) 45 #[.slice none 0 0,.int .i64 0] (w.heap.size+1) (by simp);clear hl hx hT hg;simp only [grVal];go_enter Tryz.func27,Tryz.ntmps27;go_upto_region 1 with fail;generalize (w.alloc (.cells #[.int .i64 (g.terms:Int),.int .i64 (g.nons:Int),.int .i64 (g.start:Int),.slice Ag ng cg] 24)).alloc (.cells #[.slice none 0 0,.int .i64 0] 45)=w1 at *;have hdr:=(Below.refl w1.heap.size w1).drew;have HB:=Lib.hid (hal.via hdr);have HBX:=Lib.hid (B0.via hdr);have HBC:=Lib.hid (B1.via hdr);clear hdr hal B0 B1;have hHeld:=HBX.out.cell;refine wp_region_noPanic ?_;refine wp_region_N 10 (fun w'=>∀ i,w'.cell? ⟨w.heap.size,i,none⟩=#[.int .i64 (g.terms:Int),.int .i64 (g.nons:Int),.int .i64 (g.start:Int),.slice Ag ng cg][i]?) (by kernel_rfl) ?_;generalize w1.drew=w2 at *;refine tkN 0 8 ?_;refine tkN 1 9 ?_;refine tkN 2 10 ?_;refine tkN 3 11 ?_;clear hHeld;refine wpAnyN.ready (rs:=[4,9]) (by kernel_rfl) (by simp) ?_;refine AllN.cons rfl (fun K hK=>?_) (AllN.cons rfl (fun K hK=>?_) AllN.nil)
 ·skip
  go_simp
  go_at_call 62
  refine (JE.out w2 HB.out).mono ?_;rintro e w3 ⟨ob,rb,E,rfl,hE,hsE,hfE,hbk⟩;dsimp only;have HE:=Lib.hid (And.intro hE (And.intro hsE hfE));replace HB:=Lib.hid (HB.out.via hbk);replace HBX:=Lib.hid (HBX.out.via hbk);replace HBC:=Lib.hid (HBC.out.via hbk);try replace HA:=Lib.hid (HA.out.via hbk)
  clear hE hsE hfE hbk;go_wp2_with fail;refine hK.out _ _ (fun _=>HBX.out.cell) ?_;clear hK K;try simp only [Act.put,List.setIfInBounds_toArray,List.set_cons_zero,List.set_cons_succ]
  refine wpAnyN.ready (rs:=[5,9]) (by kernel_rfl) (by simp) ?_;refine AllN.cons rfl (fun K hK=>?_) (AllN.cons rfl (fun K hK=>?_) AllN.nil)
  ·skip
   go_simp
   go_at_call 61
   have hz8:=HBC.out.lt;refine (JB.out w3 ob rb E HB.out HE.out.1 HE.out.2.1 HE.out.2.2).mono ?_;rintro e w4 ⟨f,v,b,rfl,hf,⟨fA,fn,fc,rfl,hS⟩,hbk⟩;dsimp only;have HF:=Lib.hid (And.intro hf (show Sl NdE (fun b=>w.heap.size+2≤b) w4 fA fn fc f.2 from hS.mono (fun b _ hk=>by omega)));replace HB:=Lib.hid (HB.out.via hbk);replace HBX:=Lib.hid (HBX.out.via hbk);replace HBC:=Lib.hid (HBC.out.via hbk);try replace HA:=Lib.hid (HA.out.via hbk)
   clear hf hS hbk hz8 HE;go_wp2_with fail;refine hK.out _ _ (fun _=>HBX.out.cell) ?_;clear hK K;try simp only [Act.put,List.setIfInBounds_toArray,List.set_cons_zero,List.set_cons_succ]
   have hHeld:=HBX.out.cell;refine frN 6 7 ?_;refine frN 7 14 ?_;refine frN 8 15 ?_;clear hHeld;have HBL:=Lib.hid HBC.out.lt;refine wpAnyN.ready (rs:=[9]) (by kernel_rfl) (by simp) ?_;refine AllN.cons rfl (fun K hK=>?_) AllN.nil;go_simp;refine hK.out _ _ (fun _=>(HBX.out.al _).cell) ?_;clear hK K;try simp only [Act.put,List.setIfInBounds_toArray,List.set_cons_zero,List.set_cons_succ]
   have HA:=Lib.hid (Blk.new w4 45 #[.slice none 0 0,.int .i64 0]);have hal:=(Below.refl w4.heap.size w4).al (.cells #[.slice none 0 0,.int .i64 0] 45);replace HB:=Lib.hid (HB.out.via hal);replace HBX:=Lib.hid (HBX.out.via hal);replace HBC:=Lib.hid (HBC.out.via hal);try replace HE:=Lib.hid (And.intro (HE.out.1.via hal) HE.out.2)
   try replace HF:=Lib.hid (And.intro HF.out.1 ((HF.out.2.mono (ok':=fun b=>w.heap.size+2≤b∧b≠w4.heap.size) fun b hb hk=>⟨hk,Nat.ne_of_lt hb⟩).via hal))
   clear hal;have HAG:=Lib.hid (show w.heap.size+1 < w4.heap.size from HBL.out);generalize w4.alloc (.cells #[.slice none 0 0,.int .i64 0] 45)=w5 at *;obtain ⟨fr,fns⟩:=f;refine wpAnyN.ready (rs:=[10]) (by kernel_rfl) (by simp) ?_;refine AllN.cons rfl (fun K hK=>?_) AllN.nil;have BA:=HA.out;have cBA:=BA.cell;have fBA:=BA.frozen;have lBA:=BA.lt;go_simp;refine hK.out _ _ (fun h=>absurd h (by decide)) ?_;clear hK K;clear cBA fBA lBA
   have BF:Blk ((w5.setCell ⟨w4.heap.size,0,none⟩ (.slice fA fn fc)).setCell ⟨w4.heap.size,1,none⟩ (.int .i64 fr)) w4.heap.size 45 #[.slice fA fn fc,.int .i64 fr]:=by
    have:=(BA.set_ 0 (.slice fA fn fc)).set_ 1 (.int .i64 fr); simpa using this
   clear BA;try simp only [Act.put,List.setIfInBounds_toArray,List.set_cons_zero,List.set_cons_succ]
   refine wpAnyN.ready (rs:=[11]) (by kernel_rfl) (by simp) ?_;refine AllN.cons rfl (fun K hK=>?_) AllN.nil;go_simp;refine hK.out _ _ (fun h=>absurd h (by decide)) ?_;clear hK K;refine wpAnyN.done (by kernel_rfl) ?_ _;refine NoPanic.normal ?_;have hag:=HAG.out;have HS1:=Lib.hid ((HF.out.2.agr (Agr.setCell (p:=⟨w4.heap.size,0,none⟩) (.slice fA fn fc) fun b hb=>hb.2)).agr (Agr.setCell (p:=⟨w4.heap.size,1,none⟩) (.int .i64 fr) fun b hb=>hb.2));have HB1:=Lib.hid ((HB.out.setCell (p:=⟨w4.heap.size,0,none⟩) (by show w.heap.size≤w4.heap.size; omega) (.slice fA fn fc)).setCell (p:=⟨w4.heap.size,1,none⟩) (by show w.heap.size≤w4.heap.size; omega) (.int .i64 fr));have BC:=(HBC.out.far (p:=⟨w4.heap.size,0,none⟩) (by show w.heap.size+1≠w4.heap.size; omega) (.slice fA fn fc)).far (p:=⟨w4.heap.size,1,none⟩) (by show w.heap.size+1≠w4.heap.size; omega) (.int .i64 fr);generalize (w5.setCell ⟨w4.heap.size,0,none⟩ (.slice fA fn fc)).setCell ⟨w4.heap.size,1,none⟩ (.int .i64 fr)=wz at *
   have BC2:Blk ((wz.setCell ⟨w.heap.size+1,0,none⟩ (.slice fA fn fc)).setCell ⟨w.heap.size+1,1,none⟩ (.int .i64 fr)) (w.heap.size+1) 45 #[.slice fA fn fc,.int .i64 fr]:=by
    have:=(BC.set_ 0 (.slice fA fn fc)).set_ 1 (.int .i64 fr); simpa using this
   have cc2:=BC2.cell;have cBF:=BF.cell;have fBF:=BF.frozen;have lBF:=BF.lt;have cBC:=BC.cell;have fBC:=BC.frozen;have lBC:=BC.lt;go_wp2_with fail;refine bodyPost_ret (v:=.agg #[.slice fA fn fc,.int .i64 fr]) (by simp [results,Tryz.results27,go_sem,cc2]) rfl ⟨(fr,fns),_,b,rfl,HF.out.1,⟨fA,fn,fc,rfl,?_⟩,?_⟩
   ·have h2:=(HS1.out.agr (Agr.setCell (p:=⟨w.heap.size+1,0,none⟩) (.slice fA fn fc) fun b hb=>by have:=hb.1; show b≠w.heap.size+1; omega)).agr (Agr.setCell (p:=⟨w.heap.size+1,1,none⟩) (.int .i64 fr) fun b hb=>by have:=hb.1; show b≠w.heap.size+1; omega);exact h2.mono fun b _ hb=>by have:=hb.1; omega
   ·exact (HB1.out.setCell (p:=⟨w.heap.size+1,0,none⟩) (by show w.heap.size≤w.heap.size+1; omega) _).setCell (p:=⟨w.heap.size+1,1,none⟩) (by show w.heap.size≤w.heap.size+1; omega) _
  ·skip
   have HBL:=Lib.hid HBC.out.lt;go_simp;refine hK.out _ _ (fun _=>(HBX.out.al _).cell) ?_;clear hK K;try simp only [Act.put,List.setIfInBounds_toArray,List.set_cons_zero,List.set_cons_succ]
   have HA:=Lib.hid (Blk.new w3 45 #[.slice none 0 0,.int .i64 0]);have hal:=(Below.refl w3.heap.size w3).al (.cells #[.slice none 0 0,.int .i64 0] 45);replace HB:=Lib.hid (HB.out.via hal);replace HBX:=Lib.hid (HBX.out.via hal);replace HBC:=Lib.hid (HBC.out.via hal);try replace HE:=Lib.hid (And.intro (HE.out.1.via hal) HE.out.2)
   try replace HF:=Lib.hid (And.intro HF.out.1 ((HF.out.2.mono (ok':=fun b=>w.heap.size+2≤b∧b≠w3.heap.size) fun b hb hk=>⟨hk,Nat.ne_of_lt hb⟩).via hal))
   clear hal;have HAG:=Lib.hid (show w.heap.size+1 < w3.heap.size from HBL.out);generalize w3.alloc (.cells #[.slice none 0 0,.int .i64 0] 45)=w4 at *;have hba:=HA.out.lt;refine wpAnyN.ready (rs:=[5]) (by kernel_rfl) (by simp) ?_;refine AllN.cons rfl (fun K hK=>?_) AllN.nil;go_simp
   go_at_call 61
   have hz8:=HBC.out.lt;refine (JB.out w4 ob rb E HB.out HE.out.1 HE.out.2.1 HE.out.2.2).mono ?_;rintro e w5 ⟨f,v,b,rfl,hf,⟨fA,fn,fc,rfl,hS⟩,hbk⟩;dsimp only;have HF:=Lib.hid (And.intro hf (show Sl NdE (fun b=>w.heap.size+2≤b∧b≠w3.heap.size) w5 fA fn fc f.2 from hS.mono (fun b _ hk=>by omega)));replace HB:=Lib.hid (HB.out.via hbk);replace HBX:=Lib.hid (HBX.out.via hbk);replace HBC:=Lib.hid (HBC.out.via hbk);try replace HA:=Lib.hid (HA.out.via hbk)
   clear hf hS hbk hz8 HE;go_wp2_with fail;refine hK.out _ _ (fun _=>HBX.out.cell) ?_;clear hK K;try simp only [Act.put,List.setIfInBounds_toArray,List.set_cons_zero,List.set_cons_succ]
   have hHeld:=HBX.out.cell;refine frN 6 7 ?_;refine frN 7 14 ?_;refine frN 8 15 ?_;clear hHeld;obtain ⟨fr,fns⟩:=f;refine wpAnyN.ready (rs:=[10]) (by kernel_rfl) (by simp) ?_;refine AllN.cons rfl (fun K hK=>?_) AllN.nil;have BA:=HA.out;have cBA:=BA.cell;have fBA:=BA.frozen;have lBA:=BA.lt;go_simp;refine hK.out _ _ (fun h=>absurd h (by decide)) ?_;clear hK K;clear cBA fBA lBA
   have BF:Blk ((w5.setCell ⟨w3.heap.size,0,none⟩ (.slice fA fn fc)).setCell ⟨w3.heap.size,1,none⟩ (.int .i64 fr)) w3.heap.size 45 #[.slice fA fn fc,.int .i64 fr]:=by
    have:=(BA.set_ 0 (.slice fA fn fc)).set_ 1 (.int .i64 fr); simpa using this
   clear BA;try simp only [Act.put,List.setIfInBounds_toArray,List.set_cons_zero,List.set_cons_succ]
   refine wpAnyN.ready (rs:=[11]) (by kernel_rfl) (by simp) ?_;refine AllN.cons rfl (fun K hK=>?_) AllN.nil;go_simp;refine hK.out _ _ (fun h=>absurd h (by decide)) ?_;clear hK K;refine wpAnyN.done (by kernel_rfl) ?_ _;refine NoPanic.normal ?_;have hag:=HAG.out;have HS1:=Lib.hid ((HF.out.2.agr (Agr.setCell (p:=⟨w3.heap.size,0,none⟩) (.slice fA fn fc) fun b hb=>hb.2)).agr (Agr.setCell (p:=⟨w3.heap.size,1,none⟩) (.int .i64 fr) fun b hb=>hb.2));have HB1:=Lib.hid ((HB.out.setCell (p:=⟨w3.heap.size,0,none⟩) (by show w.heap.size≤w3.heap.size; omega) (.slice fA fn fc)).setCell (p:=⟨w3.heap.size,1,none⟩) (by show w.heap.size≤w3.heap.size; omega) (.int .i64 fr));have BC:=(HBC.out.far (p:=⟨w3.heap.size,0,none⟩) (by show w.heap.size+1≠w3.heap.size; omega) (.slice fA fn fc)).far (p:=⟨w3.heap.size,1,none⟩) (by show w.heap.size+1≠w3.heap.size; omega) (.int .i64 fr);generalize (w5.setCell ⟨w3.heap.size,0,none⟩ (.slice fA fn fc)).setCell ⟨w3.heap.size,1,none⟩ (.int .i64 fr)=wz at *
   have BC2:Blk ((wz.setCell ⟨w.heap.size+1,0,none⟩ (.slice fA fn fc)).setCell ⟨w.heap.size+1,1,none⟩ (.int .i64 fr)) (w.heap.size+1) 45 #[.slice fA fn fc,.int .i64 fr]:=by
    have:=(BC.set_ 0 (.slice fA fn fc)).set_ 1 (.int .i64 fr); simpa using this
   have cc2:=BC2.cell;have cBF:=BF.cell;have fBF:=BF.frozen;have lBF:=BF.lt;have cBC:=BC.cell;have fBC:=BC.frozen;have lBC:=BC.lt;go_wp2_with fail;refine bodyPost_ret (v:=.agg #[.slice fA fn fc,.int .i64 fr]) (by simp [results,Tryz.results27,go_sem,cc2]) rfl ⟨(fr,fns),_,b,rfl,HF.out.1,⟨fA,fn,fc,rfl,?_⟩,?_⟩
   ·have h2:=(HS1.out.agr (Agr.setCell (p:=⟨w.heap.size+1,0,none⟩) (.slice fA fn fc) fun b hb=>by have:=hb.1; show b≠w.heap.size+1; omega)).agr (Agr.setCell (p:=⟨w.heap.size+1,1,none⟩) (.int .i64 fr) fun b hb=>by have:=hb.1; show b≠w.heap.size+1; omega);exact h2.mono fun b _ hb=>by have:=hb.1; omega
   ·exact (HB1.out.setCell (p:=⟨w.heap.size+1,0,none⟩) (by show w.heap.size≤w.heap.size+1; omega) _).setCell (p:=⟨w.heap.size+1,1,none⟩) (by show w.heap.size≤w.heap.size+1; omega) _
 ·skip
  have HBL:=Lib.hid HBC.out.lt;go_simp;refine hK.out _ _ (fun _=>(HBX.out.al _).cell) ?_;clear hK K;try simp only [Act.put,List.setIfInBounds_toArray,List.set_cons_zero,List.set_cons_succ]
  have HA:=Lib.hid (Blk.new w2 45 #[.slice none 0 0,.int .i64 0]);have hal:=(Below.refl w2.heap.size w2).al (.cells #[.slice none 0 0,.int .i64 0] 45);replace HB:=Lib.hid (HB.out.via hal);replace HBX:=Lib.hid (HBX.out.via hal);replace HBC:=Lib.hid (HBC.out.via hal);try replace HE:=Lib.hid (And.intro (HE.out.1.via hal) HE.out.2)
  try replace HF:=Lib.hid (And.intro HF.out.1 ((HF.out.2.mono (ok':=fun b=>w.heap.size+2≤b∧b≠w2.heap.size) fun b hb hk=>⟨hk,Nat.ne_of_lt hb⟩).via hal))
  clear hal;have HAG:=Lib.hid (show w.heap.size+1 < w2.heap.size from HBL.out);generalize w2.alloc (.cells #[.slice none 0 0,.int .i64 0] 45)=w3 at *;have hba:=HA.out.lt;refine wpAnyN.ready (rs:=[4]) (by kernel_rfl) (by simp) ?_;refine AllN.cons rfl (fun K hK=>?_) AllN.nil;have HZA:=Lib.hid hba;clear hba;go_simp
  go_at_call 62
  refine (JE.out w3 HB.out).mono ?_;rintro e w4 ⟨ob,rb,E,rfl,hE,hsE,hfE,hbk⟩;dsimp only;have HE:=Lib.hid (And.intro hE (And.intro hsE hfE));replace HB:=Lib.hid (HB.out.via hbk);replace HBX:=Lib.hid (HBX.out.via hbk);replace HBC:=Lib.hid (HBC.out.via hbk);try replace HA:=Lib.hid (HA.out.via hbk)
  clear hE hsE hfE hbk;go_wp2_with fail;refine hK.out _ _ (fun _=>HBX.out.cell) ?_;clear hK K;try simp only [Act.put,List.setIfInBounds_toArray,List.set_cons_zero,List.set_cons_succ]
  have hba:=HA.out.lt;refine wpAnyN.ready (rs:=[5]) (by kernel_rfl) (by simp) ?_;refine AllN.cons rfl (fun K hK=>?_) AllN.nil;go_simp
  go_at_call 61
  have hz8:=HBC.out.lt;refine (JB.out w4 ob rb E HB.out HE.out.1 HE.out.2.1 HE.out.2.2).mono ?_;rintro e w5 ⟨f,v,b,rfl,hf,⟨fA,fn,fc,rfl,hS⟩,hbk⟩;dsimp only;have HF:=Lib.hid (And.intro hf (show Sl NdE (fun b=>w.heap.size+2≤b∧b≠w2.heap.size) w5 fA fn fc f.2 from hS.mono (fun b _ hk=>by omega)));replace HB:=Lib.hid (HB.out.via hbk);replace HBX:=Lib.hid (HBX.out.via hbk);replace HBC:=Lib.hid (HBC.out.via hbk);try replace HA:=Lib.hid (HA.out.via hbk)
  clear hf hS hbk hz8 HE;go_wp2_with fail;refine hK.out _ _ (fun _=>HBX.out.cell) ?_;clear hK K;try simp only [Act.put,List.setIfInBounds_toArray,List.set_cons_zero,List.set_cons_succ]
  have hHeld:=HBX.out.cell;refine frN 6 7 ?_;refine frN 7 14 ?_;refine frN 8 15 ?_;clear hHeld;obtain ⟨fr,fns⟩:=f;refine wpAnyN.ready (rs:=[10]) (by kernel_rfl) (by simp) ?_;refine AllN.cons rfl (fun K hK=>?_) AllN.nil;have BA:=HA.out;have cBA:=BA.cell;have fBA:=BA.frozen;have lBA:=BA.lt;go_simp;refine hK.out _ _ (fun h=>absurd h (by decide)) ?_;clear hK K;clear cBA fBA lBA
  have BF:Blk ((w5.setCell ⟨w2.heap.size,0,none⟩ (.slice fA fn fc)).setCell ⟨w2.heap.size,1,none⟩ (.int .i64 fr)) w2.heap.size 45 #[.slice fA fn fc,.int .i64 fr]:=by
   have:=(BA.set_ 0 (.slice fA fn fc)).set_ 1 (.int .i64 fr); simpa using this
  clear BA;try simp only [Act.put,List.setIfInBounds_toArray,List.set_cons_zero,List.set_cons_succ]
  refine wpAnyN.ready (rs:=[11]) (by kernel_rfl) (by simp) ?_;refine AllN.cons rfl (fun K hK=>?_) AllN.nil;go_simp;refine hK.out _ _ (fun h=>absurd h (by decide)) ?_;clear hK K;refine wpAnyN.done (by kernel_rfl) ?_ _;refine NoPanic.normal ?_;have hag:=HAG.out;have HS1:=Lib.hid ((HF.out.2.agr (Agr.setCell (p:=⟨w2.heap.size,0,none⟩) (.slice fA fn fc) fun b hb=>hb.2)).agr (Agr.setCell (p:=⟨w2.heap.size,1,none⟩) (.int .i64 fr) fun b hb=>hb.2));have HB1:=Lib.hid ((HB.out.setCell (p:=⟨w2.heap.size,0,none⟩) (by show w.heap.size≤w2.heap.size; omega) (.slice fA fn fc)).setCell (p:=⟨w2.heap.size,1,none⟩) (by show w.heap.size≤w2.heap.size; omega) (.int .i64 fr));have BC:=(HBC.out.far (p:=⟨w2.heap.size,0,none⟩) (by show w.heap.size+1≠w2.heap.size; omega) (.slice fA fn fc)).far (p:=⟨w2.heap.size,1,none⟩) (by show w.heap.size+1≠w2.heap.size; omega) (.int .i64 fr);generalize (w5.setCell ⟨w2.heap.size,0,none⟩ (.slice fA fn fc)).setCell ⟨w2.heap.size,1,none⟩ (.int .i64 fr)=wz at *
  have BC2:Blk ((wz.setCell ⟨w.heap.size+1,0,none⟩ (.slice fA fn fc)).setCell ⟨w.heap.size+1,1,none⟩ (.int .i64 fr)) (w.heap.size+1) 45 #[.slice fA fn fc,.int .i64 fr]:=by
   have:=(BC.set_ 0 (.slice fA fn fc)).set_ 1 (.int .i64 fr); simpa using this
  have cc2:=BC2.cell;have cBF:=BF.cell;have fBF:=BF.frozen;have lBF:=BF.lt;have cBC:=BC.cell;have fBC:=BC.frozen;have lBC:=BC.lt;go_wp2_with fail;refine bodyPost_ret (v:=.agg #[.slice fA fn fc,.int .i64 fr]) (by simp [results,Tryz.results27,go_sem,cc2]) rfl ⟨(fr,fns),_,b,rfl,HF.out.1,⟨fA,fn,fc,rfl,?_⟩,?_⟩
  ·have h2:=(HS1.out.agr (Agr.setCell (p:=⟨w.heap.size+1,0,none⟩) (.slice fA fn fc) fun b hb=>by have:=hb.1; show b≠w.heap.size+1; omega)).agr (Agr.setCell (p:=⟨w.heap.size+1,1,none⟩) (.int .i64 fr) fun b hb=>by have:=hb.1; show b≠w.heap.size+1; omega);exact h2.mono fun b _ hb=>by have:=hb.1; omega
  ·exact (HB1.out.setCell (p:=⟨w.heap.size+1,0,none⟩) (by show w.heap.size≤w.heap.size+1; omega) _).setCell (p:=⟨w.heap.size+1,1,none⟩) (by show w.heap.size≤w.heap.size+1; omega) _
end Go.Proofs.YtfcihnpmeabacaaGreatDoor
namespace Go.Proofs.YtfcihnpmeabacaaGreatDoor
open Go.RowKit
inductive CT where
 | mk (rule term size:Int) (kids:List CT)
def CT.rule:CT→Int | .mk r _ _ _=>r
def CT.term:CT→Int | .mk _ t _ _=>t
def CT.size:CT→Int | .mk _ _ s _=>s
def CT.kids:CT→List CT | .mk _ _ _ k=>k
inductive CT.Wf:CT→Prop
 | mk (r t:Int) (ks:List CT) (h:∀ k∈ks,CT.Wf k) (hn:ks.length≤4) (ht:r < 0→0≤t):CT.Wf (.mk r t (1+(ks.map CT.size).sum) ks)
theorem CT.Wf.kids {x:CT} (h:x.Wf):∀ k∈x.kids,k.Wf:=by cases h with | mk r t ks h hn ht=>exact h
theorem CT.Wf.len {x:CT} (h:x.Wf):x.kids.length≤4:=by cases h with | mk r t ks h hn ht=>exact hn
theorem CT.Wf.size_eq {x:CT} (h:x.Wf):x.size=1+(x.kids.map CT.size).sum:=by cases h with | mk r t ks h hn ht=>rfl
theorem CT.Wf.term {x:CT} (h:x.Wf):x.rule < 0→0≤x.term:=by cases h with | mk r t ks h hn ht=>exact ht
theorem CT.Wf.pos {x:CT} (h:x.Wf):1≤x.size:=by
 induction h with
 | mk r t ks h hn ht ih =>
  have:0≤(ks.map CT.size).sum:=by
   clear hn h
   induction ks with
   | nil=>exact Int.le_refl _
   | cons a l ihl =>
    rw [List.map_cons,List.sum_cons];have h1:=ih a (List.mem_cons_self ..);have h2:=ihl fun k hk=>ih k (List.mem_cons_of_mem _ hk)
    omega
  show 1≤1+(ks.map CT.size).sum
  omega
def szL (l:List CT):Int:=(l.map CT.size).sum
theorem szL_cons (a:CT) (l:List CT):szL (a::l)=a.size+szL l:=by simp [szL]
theorem szL_append (a b:List CT):szL (a++b)=szL a+szL b:=by simp [szL]
theorem szL_nn {l:List CT} (h:∀ x∈l,x.Wf):(l.length:Int)≤szL l:=by
 induction l with
 | nil=>exact Int.le_refl _
 | cons a l ih =>
  have h1:=(h a (List.mem_cons_self ..)).pos;have h2:=ih fun x hx=>h x (List.mem_cons_of_mem _ hx)
  rw [szL_cons,List.length_cons]; omega
inductive CmpR:List CT→List CT→Int→Prop
 | nilL (y:List CT):CmpR [] y 0
 | nilR (x:List CT):CmpR x [] 0
 | diff (s t:CT) (x y:List CT) (h:s.rule≠t.rule):CmpR (s::x) (t::y) (if s.rule < t.rule then -1 else 1)
 | same (s t:CT) (x y:List CT) (r:Int) (h:s.rule=t.rule) (h2:CmpR (s.kids++x) (t.kids++y) r):CmpR (s::x) (t::y) r
theorem CmpR.uniq {x y:List CT} {r q:Int} (h:CmpR x y r) (h':CmpR x y q):r=q:=by
 induction h generalizing q with
 | nilL y=>cases h' <;> rfl
 | nilR x=>cases h' <;> rfl
 | diff s t x y h=>cases h' with
  | diff=>rfl
  | same _ _ _ _ _ h2=>exact absurd h2 h
 | same s t x y r h h2 ih=>cases h' with
  | diff _ _ _ _ h3=>exact absurd h h3
  | same _ _ _ _ _ _ h3=>exact ih h3
theorem CmpR.ex:∀ (n:Nat) (x y:List CT),(∀ a∈x,a.Wf)→szL x≤(n:Int)→∃ r,CmpR x y r
 | n,[],y,_,_=>⟨0,.nilL y⟩
 | n,s::x,[],_,_=>⟨0,.nilR _⟩
 | 0,s::x,t::y,hw,hn=>by
  have:=szL_nn hw;simp at this; omega
 | n+1,s::x,t::y,hw,hn=>by
  by_cases h:s.rule=t.rule
  ·have hs:=hw s (List.mem_cons_self ..)
   obtain ⟨r,hr⟩:=CmpR.ex n (s.kids++x) (t.kids++y) (fun a ha=>by
    rcases List.mem_append.1 ha with ha | ha
    ·exact hs.kids a ha
    ·exact hw a (List.mem_cons_of_mem _ ha)) (by
    rw [szL_cons] at hn; rw [szL_append];have:=hs.size_eq;unfold szL at hn ⊢
    omega)
   exact ⟨r,.same s t x y r h hr⟩
  ·exact ⟨_,.diff s t x y h⟩
theorem CmpR.skip:∀ (n:Nat) (l x y:List CT) (r:Int),(∀ a∈l,a.Wf)→szL l≤(n:Int)→CmpR (l++x) (l++y) r→CmpR x y r
 | n,[],x,y,r,_,_,h=>h
 | 0,s::l,x,y,r,hw,hn,_=>by
  have:=szL_nn hw;simp at this; omega
 | n+1,s::l,x,y,r,hw,hn,h=>by
  have hs:=hw s (List.mem_cons_self ..);rw [List.cons_append,List.cons_append] at h;cases h with
  | diff _ _ _ _ h=>exact absurd rfl h
  | same _ _ _ _ _ _ h2 =>
   rw [← List.append_assoc,← List.append_assoc] at h2
   exact CmpR.skip n (s.kids++l) x y r (fun a ha=>by
    rcases List.mem_append.1 ha with ha | ha
    ·exact hs.kids a ha
    ·exact hw a (List.mem_cons_of_mem _ ha)) (by
    rw [szL_cons] at hn; rw [szL_append];have:=hs.size_eq;unfold szL at hn ⊢
    omega) h2
theorem CmpR.pass {s:CT} {x y:List CT} {r:Int} (hs:s.Wf) (h:CmpR (s::x) (s::y) r):CmpR x y r :=
 CmpR.skip s.size.toNat [s] x y r (fun a ha=>by rw [List.mem_singleton.1 ha]; exact hs) (by have:=hs.pos; simp [szL]; omega) h
noncomputable def cmpT (a b:CT):Int:=if a.size=b.size then Classical.epsilon (CmpR [a] [b]) else if a.size < b.size then -1 else 1
theorem cmpT_spec {a b:CT} (ha:a.Wf) (h:a.size=b.size):CmpR [a] [b] (cmpT a b):=by
 unfold cmpT;rw [if_pos h];exact Classical.epsilon_spec (CmpR.ex a.size.toNat [a] [b] (fun x hx=>by rw [List.mem_singleton.1 hx]; exact ha) (by have:=ha.pos; simp [szL]; omega))
def ptCells (b:Nat):List Value:=[.pointer (some ⟨b,0,none⟩)]
inductive PtR (ok:Nat→Prop) (w:World):Nat→CT→Prop
 | mk (b:Nat) (r t s:Int) (A:Option Addr) (n c:Nat) (kids:List CT) (raw:List Nat) (hb:ok b) (hB:Blk w b 141 #[.int .i64 r,.int .i64 t,.int .i64 s,.slice A n c]) (hl:kids.length=n) (hc:n≤c) (hr:raw.length=n)
  (hcel:Cel ok w A (raw.flatMap ptCells)) (hk:∀ (i:Nat) (x:Nat) (k:CT),raw[i]?=some x→kids[i]?=some k→PtR ok w x k):PtR ok w b (.mk r t s kids)
theorem PtR.agr {ok:Nat→Prop} {w w':World} {b:Nat} {t:CT} (h:PtR ok w b t) (k:Agr ok w w'):PtR ok w' b t:=by
 induction h with
 | mk b r t s A n c kids raw hb hB hl hc hr hcel _ ih=>exact .mk b r t s A n c kids raw hb ((k b hb hB.lt).trans hB) hl hc hr (hcel.agr k) ih
theorem PtR.mono {ok ok':Nat→Prop} {w:World} {b:Nat} {t:CT} (h:PtR ok w b t) (k:∀ b,b < w.heap.size→ok b→ok' b):PtR ok' w b t:=by
 induction h with
 | mk b r t s A n c kids raw hb hB hl hc hr hcel _ ih=>exact .mk b r t s A n c kids raw (k b hB.lt hb) hB hl hc hr (hcel.mono k) ih
def PtE:Elem CT Nat where
 k:=1
 cells:=ptCells
 rel:=PtR
 pos:=by omega
 len _:=rfl
 one r u hu:=by simp [ptCells] at hu; subst hu; rfl
 agr h k:=h.agr k
 mono h k:=h.mono k
section
variable {ok:Nat→Prop} {w w':World} {b:Nat} {x y:CT}
theorem PtR.via (h:PtR ok w b x) (hb:Below w.heap.size w w'):PtR ok w' b x:=h.agr (Agr.below hb)
theorem PtR.open (h:PtR ok w b x):∃ A c,ok b∧Blk w b 141 #[.int .i64 x.rule,.int .i64 x.term,.int .i64 x.size,.slice A x.kids.length c]∧Sl PtE ok w A x.kids.length c x.kids:=by
 cases h with
 | mk _ r t s A n c kids raw hb hB hl hc hr hcel hk =>
  subst hl;exact ⟨A,c,hb,hB,rfl,hc,raw,hr,hcel,hk⟩
theorem PtR.make {r t s:Int} {A:Option Addr} {n c:Nat} {kids:List CT} (hb:ok b) (hB:Blk w b 141 #[.int .i64 r,.int .i64 t,.int .i64 s,.slice A n c]) (h:Sl PtE ok w A n c kids):PtR ok w b (.mk r t s kids):=by
 obtain ⟨h1,h2,raw,h3,h4,h5⟩:=h;exact .mk b r t s A n c kids raw hb hB h1 h2 h3 h4 h5
theorem PtR.det (h:PtR ok w b x):∀ {y:CT},PtR ok w b y→x=y:=by
 induction h with
 | mk b r t s A n c kids raw hb hB hl hc hr hcel hk ih =>
  intro y h';cases h' with
  | mk _ r' t' s' A' n' c' kids' raw' hb' hB' hl' hc' hr' hcel' hk' =>
   have e:(#[Value.int .i64 r,.int .i64 t,.int .i64 s,.slice A n c]:Array Value)=#[.int .i64 r',.int .i64 t',.int .i64 s',.slice A' n' c']:=by
    apply Array.ext_getElem?
    intro i;rw [← hB.cell i,← hB'.cell i]
   simp only [Array.mk.injEq,List.cons.injEq,Value.int.injEq,Value.slice.injEq,true_and,and_true] at e;obtain ⟨rfl,rfl,rfl,rfl,rfl,rfl⟩:=e
   have hraw:raw=raw':=by
    apply List.ext_getElem (by omega)
    intro i h1 h2
    have hne:raw.flatMap ptCells≠[]:=fun e=>by
     cases raw with
     | nil=>simp at h1
     | cons a l=>simp [ptCells] at e
    have hne':raw'.flatMap ptCells≠[]:=fun e=>by
     cases raw' with
     | nil=>simp at h2
     | cons a l=>simp [ptCells] at e
    obtain ⟨g,o,rfl,-,hc1⟩:=hcel hne;obtain ⟨g',o',e2,-,hc2⟩:=hcel' hne';simp only [Option.some.injEq,Addr.mk.injEq,and_true] at e2;obtain ⟨rfl,rfl⟩:=e2
    have hf:∀ (l:List Nat) (i:Nat) (hi:i < l.length),(l.flatMap ptCells)[i]?=some (.pointer (some ⟨l[i],0,none⟩)):=by
     intro l
     induction l with
     | nil=>intro i hi; simp at hi
     | cons a l ih =>
      intro i hi;cases i with
      | zero=>rfl
      | succ i=>simpa [ptCells] using ih i (by simpa using hi)
    have:=(hc1 i _ (hf raw i h1)).symm.trans (hc2 i _ (hf raw' i h2))
    simpa using this
   subst hraw
   have:kids=kids':=by
    apply List.ext_getElem (by omega)
    intro i h1 h2;exact ih i raw[i] kids[i] (List.getElem?_eq_getElem (by omega)) (List.getElem?_eq_getElem h1) (hk' i raw[i] kids'[i] (List.getElem?_eq_getElem (by omega)) (List.getElem?_eq_getElem h2))
   rw [this]
end
end Go.Proofs.YtfcihnpmeabacaaGreatDoor
