/- Texts VT, laid together. -/
import Derived.Test.YtfcihnpmeabacaaGreatDoorW1
import Derived.Test.YtfcihnpmeabacaaGreatDoorW34
import Derived.Test.YtfcihnpmeabacaaGreatDoorW35
import Derived.Test.YtfcihnpmeabacaaGreatDoorW30
namespace Go.Proofs.YtfcihnpmeabacaaGreatDoor
open Go.RowKit
def AllQ {κ:Type} (p:κ→Prop):Prop:=∀ y,p y
theorem wpList_next_Q {κ:Type} [DecidableEq κ] {P:Program} {kk:κ→Value} {f:κ→Option Value} {ops:Array Oper} {rest:List Oper} {o:Oper} {a:Act} {Q:Exit→Act→World→Prop} {w:World} (hg:o.guard=none) (it:Operand) (hop:o.op=Op.next it false) (r bm:Nat) (left:κ→Bool) (cnt:Nat) (hit:a.eval it=.pointer (some ⟨r,0,none⟩)) (h:RngK kk f w r bm left cnt) (hinj:∀ x y,kk x=kk y→x=y) (hne:r≠bm)
 (hDone:AllQ (fun n=>left n=false)→wpList P ops Q rest (a.put o.dst (.tuple #[.bool false])) w)
 (hMore:AllQ (fun y=>∀ (v:Value) (w':World) (cnt':Nat),left y=true→f y=some v→RngK kk f w' r bm (fun z=>left z&&decide (z≠y)) cnt'→cnt' < cnt→w.grownBy w' (some r)→w'.heap.size=w.heap.size→(Instr.entry (.pointer (some ⟨r,0,none⟩))).run P w'=.ok (.tuple #[kk y,v]) w' →
  wpList P ops Q rest (a.put o.dst (.tuple #[.bool true,kk y,v])) w')):wpList P ops Q (o::rest) a w :=
 wpList_next_K hg it hop r bm left cnt hit h hinj hne hDone hMore
def NmM (g:Gr) (n:Nat) (w:World) (bn:Nat) (N:Ky→Int):Prop :=
 ∃ G:Ky→Option Value,MapK Tryz.prog 71 kyVal w bn G∧(∀ k,(G k).getD (.int .i64 0)=.int .i64 (N k))∧∀ k,G k≠none→KyOk g n k
section
variable {g:Gr} {n:Nat} {w w':World} {bn:Nat} {N:Ky→Int}
theorem NmM.via (h:NmM g n w bn N) (hb:Below w.heap.size w w'):NmM g n w' bn N:=by
 obtain ⟨G,h1,h2⟩:=h; exact ⟨G,h1.via hb,h2⟩
theorem NmM.grown {row:Option Nat} (h:NmM g n w bn N) (hb:w.grownBy w' row) (hr:some bn≠row):NmM g n w' bn N:=by
 obtain ⟨G,h1,h2⟩:=h; exact ⟨G,h1.grown hb hr,h2⟩
theorem NmM.lt (h:NmM g n w bn N):bn < w.heap.size:=by obtain ⟨G,h1,-⟩:=h; exact h1.lt
theorem NmM.look (h:NmM g n w bn N) {k:Ky} {kl:Lit} (hk:keyOf Tryz.prog 71 (kyVal k)=some kl):(Instr.lookup 85 (.map (some bn)) (kyVal k) false).run Tryz.prog w=.ok (.int .i64 (N k)) w:=by
 obtain ⟨G,h1,h2,-⟩:=h;have:=h1.look false span_keyed Tryz.underlying85 (z:=.int .i64 0) (by kernel_rfl) k hk;rw [this,← h2 k]; rfl
theorem NmM.put (h:NmM g n w bn N) (hg:g.Ok) (hn:n≤12) {k:Ky} (hko:KyOk g n k) {kl:Lit} (hk:keyOf Tryz.prog 71 (kyVal k)=some kl) (x:Int) :
 ∃ w',(Instr.mapUpdate 85 (.map (some bn)) (kyVal k) (.int .i64 x)).run Tryz.prog w=.ok () w'∧NmM g n w' bn (fun q=>if q=k then x else N q)∧w.grownBy w' (some bn)∧w'.heap.size=w.heap.size:=by
 obtain ⟨G,h1,h2,h3⟩:=h;obtain ⟨w',k1,k2,k3,k4⟩:=h1.store span_keyed Tryz.underlying85 kyVal_inj k (.int .i64 x) hk (fun es clock he=>Nat.lt_of_le_of_lt (h1.room kyC2 3400 (fun y hy=>kyC2_lt (h3 y hy) hg hn) (fun a b ha hb e=>kyC2_inj (h3 a ha) (h3 b hb) hg hn e) es clock he) (by simp [maxLen]));refine ⟨w',k1,⟨_,k2,fun q=>?_,fun q hq=>?_⟩,k3,k4⟩
 ·show (if q=k then some (Value.int .i64 x) else G q).getD (.int .i64 0)=.int .i64 (if q=k then x else N q)
  by_cases e:q=k
  ·rw [if_pos e,if_pos e]; rfl
  ·rw [if_neg e,if_neg e]; exact h2 q
 ·by_cases e:q=k
  ·rw [e]; exact hko
  ·rw [if_neg e] at hq; exact h3 q hq
end
def CofQ (P:Ky→List (Nat×List Ky)) (D:Ky→Bool) (root:Ky) (q:Int):Prop:=(D root=false∧q=0)∨(D root=true∧(CntS P root q∨((¬ ∃ c,CntS P root c)∧q=-1)))
theorem rch_dv {D:Ky→Bool} {R:List Ru} {root:Ky} (h0:D root=true) {k:Ky} (h:RchK D R root k):D k=true:=by
 cases h with
 | root=>exact h0
 | kid _ hp hq =>
  obtain ⟨-,u,-,-,hw⟩:=packs_mem hp;exact (hw.mem _ hq).1
theorem mul_limT {x c:Int} (hx:0≤x∧x≤1000000000) (hc:0≤c∧c≤1000000000):0≤x*c∧x*c≤1000000000000000000:=by
 refine ⟨Int.mul_nonneg hx.1 hc.1,?_⟩;have h1:x*c≤1000000000*c:=Int.mul_le_mul_of_nonneg_right hx.2 hc.1;have h2:1000000000*c≤1000000000*1000000000:=Int.mul_le_mul_of_nonneg_left hc.2 (by omega);omega
theorem prodK_snoc (N:Ky→Int) (ks:List Ky) (k:Ky) (x:Int):prodK N (ks++[k]) x=min (prodK N ks x*N k) 1000000000:=by
 unfold prodK; rw [List.foldl_append]; rfl
theorem sumK_snoc (N:Ky→Int) (ps:List (Nat×List Ky)) (p:Nat×List Ky) (c:Int):sumK N (ps++[p]) c=min (sumK N ps c+prodK N p.2 1) 1000000000:=by
 unfold sumK; rw [List.foldl_append]; rfl
theorem allK_snoc (N:Ky→Int) (ps:List (Nat×List Ky)) (p:Nat×List Ky):allK N (ps++[p])=(allK N ps&&decide (0 < prodK N p.2 1)):=by
 unfold allK; rw [List.all_append]; simp
theorem filter_one {M:List Ky} {left:Ky→Bool} {y:Ky} (hn:M.Nodup) (hy:y∈M) (hl:left y=true):(M.filter fun z=>left z&&decide (z≠y)).length+1=(M.filter left).length:=by
 have h1:(M.filter left).Nodup:=hn.filter _;have h2:y∈M.filter left:=List.mem_filter.2 ⟨hy,hl⟩
 have h3:M.filter (fun z=>left z&&decide (z≠y))=(M.filter left).erase y:=by
  rw [h1.erase_eq_filter,List.filter_filter]
  apply List.filter_congr
  intro z _
  by_cases e:z=y
  ·simp [e]
  ·simp [e]
 rw [h3,List.length_erase_of_mem h2];have:=List.length_pos_of_mem h2;omega
set_option maxRecDepth 100000 in
theorem enters_co:∀ (args:Array Value) (w:World),(callFunc 33 args).run Tryz.prog w=.ok (.enter 33 args) w :=
 enters_c (c:=_) (fn:=Tryz.f33) rfl (by kernel_rfl) rfl
def CofP (w:World) (P:Ky→List (Nat×List Ky)) (D:Ky→Bool) (root:Ky) (e:Ending) (w':World):Prop:=∃ q,e=.returned (.int .i64 q)∧CofQ P D root q∧Below w.heap.size w w'
set_option maxRecDepth 100000 in
set_option maxHeartbeats 8000000 in
theorem countof_c (ok:Nat→Prop) (g:Gr) (Ag:Option Addr) (ng cg:Nat) (A:Option Addr) (n c bs bm:Nat) (xs:List Int) (w:World) (hg:g.Ok) (hl:Sl RuE ok w Ag ng cg g.rules) (hR:SpR w g Ag ng cg A n c bs bm (dvD g.rules xs)) (hn:n≤12) (hxl:xs.length=n) :
 Calls Tryz.prog 11 #[.pointer (some ⟨bs,0,none⟩)] w (CofP w (packsF (dvD g.rules xs) g.rules) (dvD g.rules xs) ((false,g.start),0,n)):=by
 obtain ⟨D,hD⟩:∃ D,D=dvD g.rules xs:=⟨_,rfl⟩;rw [← hD] at hR ⊢;have HDD:=Lib.hid hD;obtain ⟨root,hroot⟩:∃ root:Ky,root=((false,g.start),0,n):=⟨_,rfl⟩;rw [← hroot];have HRT:=Lib.hid hroot;obtain ⟨Q,hQ⟩:∃ Q,Q=CofP w (packsF D g.rules) D root:=⟨_,rfl⟩;rw [← hQ];have HQQ:=Lib.hid hQ;have HG:=Lib.hid hg;have HXL:=Lib.hid hxl;have hrk:KyOk g n root:=(by rw [hroot]; exact ⟨by simpa [Gr.okSy] using hg.start,Nat.zero_le _,Nat.le_refl _⟩);obtain ⟨klr,hklr⟩:=hrk.skeyR hg hn;have HKR:=Lib.hid (And.intro hrk hklr);have JR:=Lib.hid (show ∀ w',Below w.heap.size w w'→Calls Tryz.prog 32 #[.pointer (some ⟨bs,0,none⟩)] w' (RootP w' g n) from fun w' h=>root_c g Ag ng cg A n c bs bm D w' (hR.via h));have HRR:=Lib.hid (show ∀ w',Below w.heap.size w w'→Sl RuE ok w' Ag ng cg g.rules∧SpR w' g Ag ng cg A n c bs bm D from fun w' h=>⟨hl.via h,hR.via h⟩);have BP:=Blk.new w 33 #[.pointer (some ⟨bs,0,none⟩)];have hal:=(Below.refl w.heap.size w).al (.cells #[.pointer (some ⟨bs,0,none⟩)] 33);have hkv:kyVal root=.agg #[.bool false,.int .i64 (g.start:Int),.int .i64 0,.int .i64 (n:Int)]:=(by rw [hroot]; rfl);have HKV:=Lib.hid hkv;clear hD hroot hQ hg hl hR hrk hklr hxl hkv;go_enter Tryz.func11,Tryz.ntmps11;go_upto_region 1 with fail;generalize w.alloc (.cells #[.pointer (some ⟨bs,0,none⟩)] 33)=w1 at *;have hdr:=hal.via (Below.refl w1.heap.size w1).drew;have BP1:=BP.via (Below.refl w1.heap.size w1).drew;clear hal BP
 have SO:=Lib.hid (show ∀ w',Below w1.drew.heap.size w1.drew w'→((∀ x,w'.cell? ⟨w.heap.size,x,none⟩=#[.pointer (some ⟨bs,0,none⟩)][x]?)∧(∀ x,w'.cell? ⟨bs,x,none⟩=#[.int .i64 (g.terms:Int),.int .i64 (g.nons:Int),.int .i64 (g.start:Int),.slice Ag ng cg,.slice A n c,.map (some bm)][x]?)∧(Instr.lookup 65 (.map (some bm)) (.agg #[.bool false,.int .i64 (g.start:Int),.int .i64 0,.int .i64 (n:Int)]) false).run Tryz.prog w'=.ok (.bool (D root)) w') from fun w' h=>by
  have h2:=(HRR.out _ (hdr.via h)).2;refine ⟨(BP1.via h).cell,h2.blk.cell,?_⟩;have h3:=spm_look h2.map root HKR.out.2
  rw [HKV.out] at h3; exact h3)
 refine wp_region_noPanic ?_;refine wp_region_held_drew (S:=fun w'=>(∀ x,w'.cell? ⟨w.heap.size,x,none⟩=#[.pointer (some ⟨bs,0,none⟩)][x]?)∧(∀ x,w'.cell? ⟨bs,x,none⟩=#[.int .i64 (g.terms:Int),.int .i64 (g.nons:Int),.int .i64 (g.start:Int),.slice Ag ng cg,.slice A n c,.map (some bm)][x]?)∧(Instr.lookup 65 (.map (some bm)) (.agg #[.bool false,.int .i64 (g.start:Int),.int .i64 0,.int .i64 (n:Int)]) false).run Tryz.prog w'=.ok (.bool (D root)) w') (by kernel_rfl) (SO.out _ (Below.refl _ _)) (fun hHeld=>?_);have HDR:=Lib.hid hdr;have HBP1:=Lib.hid BP1;clear hdr BP1;refine tkH 0 15 ?_;refine tkH 1 16 ?_;refine tkH 2 17 ?_;refine tkH 3 18 ?_;refine tkH 4 19 ?_;refine wpAnyH_ready (rs:=[5]) (by kernel_rfl) (by simp) ?_;refine AllReadyH.cons rfl (fun K hK=>?_) AllReadyH.nil;go_simp
 go_at_call 32
 refine (JR.out _ HDR.out).mono ?_;rintro e w2 ⟨rfl,hb2⟩;simp only [kyVal,Int.natCast_zero];go_wp2_with fail;refine hK.out _ _ (SO.out _ hb2) (fun hHeld2=>?_);clear hK K;try simp only [Act.put,List.setIfInBounds_toArray,List.set_cons_zero,List.set_cons_succ]
 refine tkH 6 21 ?_;refine tkH 7 22 ?_;refine wpAnyH_done (by kernel_rfl) ?_ _;refine NoPanic.normal ?_;have HB2:=Lib.hid (HDR.out.via hb2);have HBP2:=Lib.hid (HBP1.out.via hb2);clear hHeld hHeld2 hb2 SO HDR HBP1;cases hdr0:D root with
 | false =>
  go_wp2_with fail;rw [HQQ.out];exact ⟨0,rfl,Or.inl ⟨hdr0,rfl⟩,HB2.out⟩
 | true =>
  have hDb:∀ k,D k=true→k.2.1≤k.2.2∧k.2.2≤n:=fun k hk=>by
   rw [HDD.out] at hk;have:=dvD_iff.1 hk;exact ⟨this.1,by have:=this.2.1; have:=HXL.out; omega⟩
  obtain ⟨L,hL⟩:=nds_ex (g:=g) (D:=D) (n:=n) HG.out hn hDb;rw [← HRT.out] at hL;have hLk:∀ k∈L,KyOk g n k:=fun k hk=>RchK.ok HG.out hDb HKR.out.1 ((hL.mem k).1 hk)
  have hLc:∀ k∈L,∀ q∈kidsP (packsF D g.rules) k,q∈L:=fun k hk q hq=>by
   unfold kidsP at hq;obtain ⟨p,hp,hq⟩:=List.mem_flatMap.1 hq;exact hL.kid hk hp hq
  have HLL:=Lib.hid (And.intro ((hL.mem root).2 .root) (And.intro hLk (And.intro hLc hL.nodup)))
  have HLD:=Lib.hid (show ∀ k∈L,k.1.1=false→packsF D g.rules k≠[] from fun k hk hf=>by
   have h1:=rch_dv hdr0 ((hL.mem k).1 hk);rw [HDD.out] at h1 ⊢
   exact dvD_packs h1 hf)
  clear hDb hL hLk hLc;have hmf:∀ (fn:Fn) (first cap:Array Value) (w:World),(Instr.makeFunc fn first cap).run Tryz.prog w=.ok (.func fn first cap) w:=fun _ _ _ _=>rfl
  have hmm:=@run_makeMap Tryz.prog;go_upto_region 6 with fail;clear hmf hmm
  have hCo:CoW w 33 g.rules D bs (w2.heap.size+1) w.heap.size (w2.heap.size+1+1) w2.heap.size [] (fun _=>none) (((w2.alloc (.map #[] 0)).alloc (.cells #[.map (some w2.heap.size)] 77)).alloc (.cells #[.func (.func 33) #[] #[.pointer (some ⟨w2.heap.size+1,0,none⟩),.pointer (some ⟨w.heap.size,0,none⟩),.pointer (some ⟨w2.heap.size+1+1,0,none⟩)]] 78)):=by
   have hsz:=HB2.out.size;have hlt:=HBP2.out.lt;refine ⟨((HB2.out.al _).al _).al _,(Blk.newAt (w2.alloc (.map #[] 0)) 77 #[.map (some w2.heap.size)] (w2.heap.size+1) (by simp)).al _,((HBP2.out.al _).al _).al _,Blk.newAt ((w2.alloc (.map #[] 0)).alloc (.cells #[.map (some w2.heap.size)] 77)) 78 #[.func (.func 33) #[] #[.pointer (some ⟨w2.heap.size+1,0,none⟩),.pointer (some ⟨w.heap.size,0,none⟩),.pointer (some ⟨w2.heap.size+1+1,0,none⟩)]] (w2.heap.size+1+1) (by simp),((MapK.made w2 Tryz.prog 71 kyVal).al _).al _,fun k=>by simp,(fun k V hV=>by cases hV),⟨hsz,by omega,Nat.le_refl _,by omega⟩,⟨by omega,by omega,by omega⟩⟩
  generalize ((w2.alloc (.map #[] 0)).alloc (.cells #[.map (some w2.heap.size)] 77)).alloc (.cells #[.func (.func 33) #[] #[.pointer (some ⟨w2.heap.size+1,0,none⟩),.pointer (some ⟨w.heap.size,0,none⟩),.pointer (some ⟨w2.heap.size+1+1,0,none⟩)]] 78)=w5 at *;have HZ5:=Lib.hid (show w.heap.size < w2.heap.size from HBP2.out.lt);clear HB2 HBP2;generalize w2.heap.size+1+1=pF at *;generalize w2.heap.size+1=pW at *;generalize w2.heap.size=bw at *;have hdr:=(Below.refl w5.heap.size w5).drew;have HM6:=Lib.hid (hCo.via hdr);clear hCo hdr;have SO:=Lib.hid (show ∀ w' M F,CoW w 33 g.rules D bs pW w.heap.size pF bw M F w'→((∀ x,w'.cell? ⟨pF,x,none⟩=#[.func (.func 33) #[] #[.pointer (some ⟨pW,0,none⟩),.pointer (some ⟨w.heap.size,0,none⟩),.pointer (some ⟨pF,0,none⟩)]][x]?)∧∀ x,w'.cell? ⟨w.heap.size,x,none⟩=#[.pointer (some ⟨bs,0,none⟩)][x]?) from fun w' M F h=>⟨h.bxF.cell,h.bxS.cell⟩);refine wp_region_noPanic ?_;refine wp_region_held_drew (S:=fun w'=>(∀ x,w'.cell? ⟨pF,x,none⟩=#[.func (.func 33) #[] #[.pointer (some ⟨pW,0,none⟩),.pointer (some ⟨w.heap.size,0,none⟩),.pointer (some ⟨pF,0,none⟩)]][x]?)∧∀ x,w'.cell? ⟨w.heap.size,x,none⟩=#[.pointer (some ⟨bs,0,none⟩)][x]?) (by kernel_rfl) (SO.out _ _ _ HM6.out) (fun hHeld=>?_);generalize w5.drew=w6 at *;refine tkH 0 25 ?_;refine tkH 1 26 ?_;refine wpAnyH_ready (rs:=[2]) (by kernel_rfl) (by simp) ?_;refine AllReadyH.cons rfl (fun K hK=>?_) AllReadyH.nil;go_simp
  go_at_call 32
  refine (JR.out _ HM6.out.bel).mono ?_;rintro e w6b ⟨rfl,hb6⟩;simp only [kyVal,Int.natCast_zero];have HM6b:=Lib.hid (HM6.out.via hb6);clear hb6 HM6;go_wp2_with fail;refine hK.out _ _ (SO.out _ _ _ HM6b.out) (fun hHeld2=>?_);clear hK K;try simp only [Act.put,List.setIfInBounds_toArray,List.set_cons_zero,List.set_cons_succ]
  have hre:=reach_n w 33 (Lib.hid rfl) enters_co ok g D Ag ng cg A n c bs bm pW w.heap.size pF bw HG.out hn L HLL.out.2.1 HLL.out.2.2.1 HLL.out.2.2.2 HRR.out (L.length+1) root [] (fun _=>none) w6b HLL.out.1 List.nodup_nil (fun q hq=>absurd hq List.not_mem_nil) (by simp) HM6b.out;obtain ⟨m1,m2,m3,m4⟩:=rchV_all (P:=packsF D g.rules) HLL.out.2.2.1 HLL.out.2.2.2 (d:=L.length+1) HLL.out.1 (by omega);rw [HKV.out] at hre;obtain ⟨M,hM⟩:∃ M,M=rchV (packsF D g.rules) (L.length+1) root []:=⟨_,rfl⟩;rw [← hM] at hre m1 m2 m3 m4;have HMM:=Lib.hid (show M.Nodup∧root∈M∧(∀ q∈M,q∈L)∧∀ q∈M,∀ p∈packsF D g.rules q,∀ r∈p.2,r∈M from ⟨m1,(m2 root).2 (.refl root),m3,fun q hq p hp r hr=>m4 q hq r (by unfold kidsP; exact List.mem_flatMap.2 ⟨p,hp,hr⟩)⟩);have HRE:=Lib.hid hre;clear hre m1 m2 m3 m4 hM HM6b;refine wpAnyH_ready (rs:=[3]) (by kernel_rfl) (by simp) ?_;refine AllReadyH.cons rfl (fun K hK=>?_) AllReadyH.nil;go_simp
  go_at_call 33
  refine HRE.out.mono ?_;clear HRE;rintro e w7 ⟨rfl,F,hm7,-⟩;have HM7:=Lib.hid hm7;clear hm7;go_wp2_with fail;refine hK.out _ _ (SO.out _ _ _ HM7.out) (fun hHeld3=>?_);clear hK K;try simp only [Act.put,List.setIfInBounds_toArray,List.set_cons_zero,List.set_cons_succ]
  refine wpAnyH_done (by kernel_rfl) ?_ _;refine NoPanic.normal ?_;clear hHeld hHeld2 hHeld3 SO;have hmm:=@run_makeMap Tryz.prog;go_upto_region 8 with fail;clear hmm;have HN8:=Lib.hid (show NmM g n (w7.alloc (.map #[] 0)) w7.heap.size (fun _=>0) from ⟨_,MapK.made w7 Tryz.prog 71 kyVal,fun k=>rfl,fun k h=>absurd rfl h⟩);have hb8:=(Below.refl w7.heap.size w7).al (.map #[] 0);have HBN:=Lib.hid (show bw < w7.heap.size∧pW < w7.heap.size∧w.heap.size < w7.heap.size from ⟨HM7.out.pk.lt,HM7.out.bxW.lt,HM7.out.bxS.lt⟩);generalize w7.alloc (.map #[] 0)=w8 at *;have BW:=(HM7.out.via hb8).bxW;have hpk:=(HM7.out.via hb8).pk;obtain ⟨bn,hbn⟩:∃ bn,bn=w7.heap.size:=⟨_,rfl⟩;have HNL:=Lib.hid (show bn < w8.heap.size by rw [hbn]; exact HN8.out.lt);rw [← hbn] at HN8 ⊢;have HBE:=Lib.hid hbn;clear hbn;have cBW:=BW.cell;have fBW:=BW.frozen;have lBW:=BW.lt;go_wp2_with (at_range; refine wpList_range_K rfl 77 79 Tryz.underlying77 _ rfl bw rfl hpk ?_);intro w9 cnt0 hrg0 hb9 hz9;clear cBW fBW lBW;go_wp2_with fail;have HB9:=Lib.hid (hb8.via hb9);have HN9:=Lib.hid (HN8.out.via hb9);have HRG:=Lib.hid hrg0;have HR1:=Lib.hid (show bw < w8.heap.size from hpk.lt);clear hpk BW hrg0 hb9 hz9 hb8 HN8;generalize w8.heap.size=r1 at *;obtain ⟨P,hP⟩:∃ P,P=packsF D g.rules:=⟨_,rfl⟩;rw [← hP] at HMM HLD HQQ HLL;have HPP:=Lib.hid hP;have HTM:=Lib.hid (show ∀ k:Ky,k.1.1=true→P k=[] from fun k hk=>by rw [hP]; exact term_packs hk);clear hP
  go_loopw [32] (fun _ wr=>∃ (left:Ky→Bool) (cnt t:Nat) (N:Ky→Int),Hid (Below w7.heap.size w7 wr∧NmM g n wr bn N∧RngK kyVal F wr r1 bw left cnt∧RndI P N∧(∀ k∈M,HgtS P t k→0 < N k)∧t+(M.filter left).length=M.length∧∀ k,left k=true→k∈M)) (fun _ wr=>World.rngLeftK wr r1)
  case atStart=>exact ⟨_,_,0,_,Lib.hid ⟨HB9.out,HN9.out,HRG.out,RndI.zero,fun _ _ h=>h.elim,by rw [List.filter_eq_self.2 fun k hk=>Option.isSome_iff_ne_none.2 ((HM7.out.fok k).2 hk),Nat.zero_add],fun k hk=>(HM7.out.fok k).1 (Option.isSome_iff_ne_none.1 hk)⟩⟩
  case round =>
   obtain ⟨left,cnt,t,N,HQ⟩:=hrel;clear HB9 HN9 HRG;have hr1:=HR1.out;go_wp2_with (at_next; refine wpList_next_Q rfl _ rfl r1 bw left cnt rfl HQ.out.2.2.1 kyVal_inj (by omega) ?_ ?_)
   ·intro hd;have hfl:M.filter left=[]:=List.filter_eq_nil_iff.2 fun k _=>by rw [hd k]; simp
    have hres:=rnd_end (P:=P) (L:=M) (N:=N) HQ.out.2.2.2.1 (by have h1:=HQ.out.2.2.2.2.1; have h2:=HQ.out.2.2.2.2.2.1; rw [hfl] at h2; have h3:t=M.length:=by simpa using h2
                                                               rw [← h3]; exact h1) HMM.out.2.2.2 HMM.out.2.1
    have HRES:=Lib.hid hres;have HMR:=Lib.hid (HM7.out.via HQ.out.1);have HNR:=Lib.hid HQ.out.2.1;have BS:=HMR.out.bxS;clear hd hfl hres HQ;have cBS:=BS.cell;have fBS:=BS.frozen;have lBS:=BS.lt;go_wp2_with fail;clear cBS fBS lBS;refine (JR.out _ HMR.out.bel).mono ?_;rintro e w11 ⟨rfl,hb11⟩;have hlk:=(HNR.out.via hb11).look HKR.out.2;rw [HKV.out] at hlk;have HMR2:=Lib.hid (HMR.out.via hb11);have HNR2:=Lib.hid (HNR.out.via hb11);clear BS HMR HNR hb11;simp only [kyVal,Int.natCast_zero];obtain ⟨q,hq⟩:∃ q,q=N root:=⟨_,rfl⟩;rw [← hq] at hlk;have HQN:=Lib.hid hq;clear hq
    rcases HRES.out with ⟨h1,h2⟩ | ⟨h1,h2⟩
    ·rw [← HQN.out] at h1 h2;have hz1:(q==0)=false:=(by simp; omega);have hz2:¬ q=0:=(by omega);have HC:=Lib.hid h2;have BS:=HMR2.out.bxS;clear h2;have cBS:=BS.cell;have fBS:=BS.frozen;have lBS:=BS.lt;go_wp2_with fail;clear cBS fBS lBS;refine (JR.out _ HMR2.out.bel).mono ?_;rintro e w12 ⟨rfl,hb12⟩;have hlk2:=(HNR2.out.via hb12).look HKR.out.2;rw [HKV.out,← HQN.out] at hlk2;have HMR3:=Lib.hid (HMR2.out.via hb12);clear hlk BS HMR2 HNR2 hb12;simp only [kyVal,Int.natCast_zero];go_wp2_with fail;rw [HQQ.out];exact ⟨q,rfl,Or.inr ⟨hdr0,Or.inl HC.out⟩,HMR3.out.bel⟩
    ·rw [← HQN.out] at h1;have hz1:(q==0)=true:=(by simp; omega);have HC:=Lib.hid h2;clear h2;subst h1;go_wp2_with fail;rw [HQQ.out];exact ⟨-1,rfl,Or.inr ⟨hdr0,Or.inr ⟨HC.out,rfl⟩⟩,HMR2.out.bel⟩
   ·intro y v w10 cnt1 hly hfy hrg hlt hgr hsz hen;obtain ⟨left1,hleft1⟩:∃ l1:Ky→Bool,l1=fun z=>left z&&!decide (z=y):=⟨_,rfl⟩
    rw [← hleft1] at hrg;have HL1:=Lib.hid (show ∀ z,left1 z=(left z&&decide (z≠y)) from fun z=>by rw [hleft1]; simp);clear hleft1;have HB10:=Lib.hid (HQ.out.1.grown hgr HQ.out.1.size (fun b hb=>by have:=Option.some.inj hb; have:=HNL.out; have:=HBE.out; omega));have HN10:=Lib.hid (HQ.out.2.1.grown hgr (fun e=>by have:=Option.some.inj e; have:=HNL.out; omega));have HRG1:=Lib.hid hrg;have HLT:=Lib.hid hlt;have HLY:=Lib.hid hly;have HIT:=Lib.hid HQ.out.2.2.2;have HRE1:=Lib.hid HQ.out.2.2.1.left_eq;clear hgr hrg hlt hsz hen hfy hly HQ;have BW:=(HM7.out.via HB10.out).bxW;have hpk:=(HM7.out.via HB10.out).pk;have cBW:=BW.cell;have fBW:=BW.frozen;have lBW:=BW.lt;go_wp2_with (at_range; refine wpList_range_K rfl 77 79 Tryz.underlying77 _ rfl bw rfl hpk ?_);intro w11 cnt2 hrg2 hb11 hz11;clear cBW fBW lBW;go_wp2_with fail;have HB11:=Lib.hid (HB10.out.via hb11);have HN11:=Lib.hid (HN10.out.via hb11);have HRG2:=Lib.hid hrg2;have HRG11:=Lib.hid (HRG1.out.via hb11);have HR2:=Lib.hid (show r1 < w10.heap.size from HRG1.out.lt.1);clear hpk BW hrg2 hb11 hz11 HB10 HN10 HRG1;generalize w10.heap.size=r2 at *
    go_loopw [37] (fun _ wr=>∃ (left2:Ky→Bool) (cnt2:Nat) (N2:Ky→Int),Hid (Below w7.heap.size w7 wr∧NmM g n wr bn N2∧RngK kyVal F wr r1 bw left1 cnt1∧RngK kyVal F wr r2 bw left2 cnt2∧RndT P M t left2 N2∧∀ k,left2 k=true→k∈M)) (fun _ wr=>World.rngLeftK wr r2)
    case atStart=>exact ⟨_,_,N,Lib.hid ⟨HB11.out,HN11.out,HRG11.out,HRG2.out,RndT.begin _ HIT.out.1 HIT.out.2.1 (fun k hk=>Option.isSome_iff_ne_none.2 ((HM7.out.fok k).2 hk)),fun k hk=>(HM7.out.fok k).1 (Option.isSome_iff_ne_none.1 hk)⟩⟩
    case round =>
     obtain ⟨left2,cntb,N2,HQ2⟩:=hrel;clear HB11 HN11 HRG11 HRG2;have hr2:=HR2.out;go_wp2_with (at_next; refine wpList_next_Q rfl _ rfl r2 bw left2 cntb rfl HQ2.out.2.2.2.1 kyVal_inj (by omega) ?_ ?_)
     ·intro hd;have HD2:=Lib.hid hd;clear hd;go_wp2_with fail;refine ⟨⟨left1,cnt1,t+1,N2,Lib.hid ⟨HQ2.out.1,HQ2.out.2.1,HQ2.out.2.2.1,HQ2.out.2.2.2.2.1.inv,HQ2.out.2.2.2.2.1.done HD2.out,?_,fun k hk=>?_⟩⟩,?_⟩
      ·have h1:=filter_one (left:=left) HMM.out.1 (HIT.out.2.2.2 y HLY.out) HLY.out;have h2:=HIT.out.2.2.1;have h3:(fun z=>left z&&decide (z≠y))=left1:=funext fun z=>(HL1.out z).symm
       rw [h3] at h1;omega
      ·rw [HL1.out,Bool.and_eq_true] at hk;exact HIT.out.2.2.2 k hk.1
      ·rw [HQ2.out.2.2.1.left_eq,HRE1.out]; exact HLT.out
     ·intro y2 v w12 cnt3 hly hfy hrg hlt hgr hsz hen;obtain ⟨left3,hleft3⟩:∃ l:Ky→Bool,l=fun z=>left2 z&&!decide (z=y2):=⟨_,rfl⟩
      rw [← hleft3] at hrg
      have HL3:=Lib.hid (show ∀ z,left3 z=false→left2 z=false∨z=y2 from fun z hz=>by
       rw [hleft3] at hz
       by_cases e:z=y2
       ·exact Or.inr e
       ·left; simpa [e] using hz)
      have HS3:=Lib.hid (show ∀ z,left3 z=true→left2 z=true from fun z hz=>by
       rw [hleft3] at hz; simp only [Bool.and_eq_true] at hz; exact hz.1)
      have HYM:=Lib.hid (HQ2.out.2.2.2.2.2 y2 hly);have HMS:=Lib.hid HQ2.out.2.2.2.2.2;have HYK:=Lib.hid (HLL.out.2.1 y2 (HMM.out.2.2.1 y2 HYM.out));obtain ⟨kl,hkl⟩:=HYK.out.skeyR HG.out hn;have HKL:=Lib.hid hkl;obtain ⟨Ap,cp,rfl,hSP⟩:=HM7.out.rows y2 v hfy;have hpl0:(packsF D g.rules y2).length≤913952:=packs_len (fun u hu=>(HG.out.right u hu).1) HG.out.count (Nat.le_trans HYK.out.2.2 hn);rw [← HPP.out] at hSP hpl0 hen;obtain ⟨ps,hps⟩:∃ ps,ps=P y2:=⟨_,rfl⟩;rw [← hps] at hSP hpl0 hen;have HPS:=Lib.hid hps;obtain ⟨pl,hpl⟩:∃ pl,pl=ps.length:=⟨_,rfl⟩;rw [← hpl] at hSP hpl0 hen;have HPL:=Lib.hid hpl;have HSP:=Lib.hid hSP;have hal:=(Below.refl w12.heap.size w12).al (.cells (kyC y2) 71);have hb12:=HQ2.out.1.grown hgr HQ2.out.1.size (fun b hb=>by have:=Option.some.inj hb; have:=HNL.out; have:=HBE.out; omega);have hnr2:bn≠r2:=(by have:=HNL.out; omega);have hrr2:r1≠r2:=(by omega);have hwr2:bw≠r2:=(by omega);have HBX:=Lib.hid (hb12.via hal);have HNX:=Lib.hid ((HQ2.out.2.1.grown hgr (fun e=>hnr2 (Option.some.inj e))).via hal);have HRX:=Lib.hid ((HQ2.out.2.2.1.grown hgr (fun e=>hrr2 (Option.some.inj e)) (fun e=>hwr2 (Option.some.inj e))).via hal);have HRY:=Lib.hid (hrg.via hal);have HRT2:=Lib.hid HQ2.out.2.2.2.2.1;have HRE2:=Lib.hid HQ2.out.2.2.2.1.left_eq;have HLT2:=Lib.hid hlt;have BY:=Blk.new w12 71 (kyC y2);have hkv:kyVal y2=.agg #[.bool y2.1.1,.int .i64 (y2.1.2:Int),.int .i64 (y2.2.1:Int),.int .i64 (y2.2.2:Int)]:=rfl;clear hleft3 hly hfy hkl hSP hps hpl hal hb12 hgr hrg hlt hsz HQ2 hnr2 hrr2 hwr2;unfold kyC at HBX HNX HRX HRY BY;rw [hkv] at hen;have cBY:=BY.cell;have fBY:=BY.frozen;have lBY:=BY.lt;go_upto_region 13 with fail;clear cBY fBY lBY;clear hen;generalize w12.alloc (.cells #[.bool y2.1.1,.int .i64 (y2.1.2:Int),.int .i64 (y2.2.1:Int),.int .i64 (y2.2.2:Int)] 71)=wx at *;have hlk:=HNX.out.look HKL.out;rw [hkv] at hlk;obtain ⟨q,hq⟩:∃ q,q=N2 y2:=⟨_,rfl⟩;rw [← hq] at hlk;have HQN:=Lib.hid hq;have hq0:=(HRT2.out.inv.nn y2).1;rw [← hq] at hq0;clear hq;have HBY:=Lib.hid BY
      by_cases hpos:(0:Int) < q
      ·as_aux_lemma =>
       have cBY:=BY.cell;have fBY:=BY.frozen;have lBY:=BY.lt;go_wp2_with fail;clear cBY fBY lBY;refine ⟨⟨left3,cnt3,N2,Lib.hid ⟨HBX.out,HNX.out,HRX.out,HRY.out,?_,fun k hk=>HMS.out k (HS3.out k hk)⟩⟩,?_⟩
       ·have h1:=HRT2.out.step (left':=left3) HTM.out (fun k hk=>HLD.out k (HMM.out.2.2.1 k hk)) HMM.out.2.2.2 HYM.out HL3.out;have h2:stpK P N2 y2=N2:=(by unfold stpK; rw [if_pos (by rw [← HQN.out]; exact hpos)]);rw [h2] at h1; exact h1
       ·rw [HRY.out.left_eq,HRE2.out]; exact HLT2.out
      ·have hpos2:q=0:=(by omega);subst hpos2;have cBY:=BY.cell;have fBY:=BY.frozen;have lBY:=BY.lt;go_wp2_with fail;clear cBY fBY lBY;clear BY hlk hpos hq0
       go_loopw [48,8,9] (fun q s al wr=>∃ i:Nat,q=.int .i64 (i:Int)∧i≤pl∧s=.int .i64 (sumK N2 (ps.take i) 0)∧al=.bool (allK N2 (ps.take i))∧Hid (Below wx.heap.size wx wr)) (fun q _ _ _=>pl - (intOf q).toNat)
       case atStart=>exact ⟨0,rfl,Nat.zero_le _,by simp [sumK],by simp [allK],Lib.hid (Below.refl _ _)⟩
       case round =>
        obtain ⟨i,rfl,hi,rfl,rfl,HBI⟩:=hrel
        by_cases hil:i < pl
        ·as_aux_lemma =>
         obtain ⟨b2,o2,⟨pr,KA,kn,kc⟩,⟨pr',ks⟩,hAp,-,hb2,hpsi,⟨hp1,hp2⟩,hcl⟩:=HSP.out.at_ hil;simp only at hp1 hp2;obtain rfl:pr=pr':=hp1;subst hAp;have hb9:=HBX.out.trans (HBI.out.mono HBX.out.size);have d1:=(hb9.cell (p:=⟨b2,o2+i*PkE.k+0,none⟩) hb2).trans (hcl 0 _ rfl);have d2:=(hb9.cell (p:=⟨b2,o2+i*PkE.k+1,none⟩) hb2).trans (hcl 1 _ rfl);simp only [PkE,Nat.add_zero] at d1 d2;have m0:(0:Int)≤(i:Int):=(by omega);have m1:(i:Int) < (pl:Int):=(by omega);have HKS:=Lib.hid hp2;have HPI:=Lib.hid hpsi
         have hkn4:kn≤4:=by
          have hm:(pr,ks)∈packsF D g.rules y2:=(by rw [← HPP.out,← HPS.out]; exact List.mem_of_getElem? hpsi);obtain ⟨-,u,hu,-,hw⟩:=packs_mem hm;have h1:=hw.len;have h2:=(HG.out.right u (List.mem_of_getElem? hu)).1;have h3:=hp2.len;simp only at h1 h3;omega
         have HS0:=Lib.hid (sumK_pos HRT2.out.inv.nn (ps:=ps.take i) (c:=0) (by omega) (by omega));have HS1:=Lib.hid (show sumK N2 (ps.take (i+1)) 0=min (sumK N2 (ps.take i) 0+prodK N2 ks 1) 1000000000 by rw [List.take_add_one,hpsi]; exact sumK_snoc _ _ _ _);have HA1:=Lib.hid (show allK N2 (ps.take (i+1))=(allK N2 (ps.take i)&&decide (0 < prodK N2 ks 1)) by rw [List.take_add_one,hpsi]; exact allK_snoc _ _ _);obtain ⟨su,hsu⟩:∃ su,su=sumK N2 (ps.take i) 0:=⟨_,rfl⟩;obtain ⟨ab,hab⟩:∃ ab,ab=allK N2 (ps.take i):=⟨_,rfl⟩;rw [← hsu] at HS0 HS1 ⊢;rw [← hab] at HA1 ⊢;have HB9:=Lib.hid (hb9.al (.cells #[.int .i64 (pr:Int),.slice KA kn kc] 84));have HBI2:=Lib.hid (HBI.out.al (.cells #[.int .i64 (pr:Int),.slice KA kn kc] 84));have BP:=Blk.new wr 84 #[.int .i64 (pr:Int),.slice KA kn kc];clear hcl hp2 hpsi hsu hab hb9 hb2;have cBP:=BP.cell;have fBP:=BP.frozen;have lBP:=BP.lt;go_wp2_with fail;clear cBP fBP lBP;clear d1 d2 BP HBI;generalize wr.alloc (.cells #[.int .i64 (pr:Int),.slice KA kn kc] 84)=wv at *
         go_loopw [55,12] (fun q p wr=>∃ j:Nat,q=.int .i64 (j:Int)∧j≤kn∧p=.int .i64 (prodK N2 (ks.take j) 1)∧Hid (Below wv.heap.size wv wr)) (fun q _ _=>kn - (intOf q).toNat)
         case atStart=>exact ⟨0,rfl,Nat.zero_le _,by simp [prodK],Lib.hid (Below.refl _ _)⟩
         case round =>
          obtain ⟨j,rfl,hj,rfl,HBJ⟩:=hrel
          by_cases hjl:j < kn
          ·obtain ⟨b3,o3,q0,qk,hKA,-,hb3,hqj,hqq,hcl⟩:=HKS.out.at_ hjl;obtain rfl:q0=qk:=hqq;subst hKA;have hb9:=HB9.out.trans (HBJ.out.mono HB9.out.size);have d1:=(hb9.cell (p:=⟨b3,o3+j*KyE.k+0,none⟩) hb3).trans (hcl 0 _ rfl);have d2:=(hb9.cell (p:=⟨b3,o3+j*KyE.k+1,none⟩) hb3).trans (hcl 1 _ rfl);have d3:=(hb9.cell (p:=⟨b3,o3+j*KyE.k+2,none⟩) hb3).trans (hcl 2 _ rfl);have d4:=(hb9.cell (p:=⟨b3,o3+j*KyE.k+3,none⟩) hb3).trans (hcl 3 _ rfl);simp only [KyE,Nat.add_zero] at d1 d2 d3 d4;have n0:(0:Int)≤(j:Int):=(by omega);have n1:(j:Int) < (kn:Int):=(by omega);have hqm:q0∈M:=HMM.out.2.2.2 y2 HYM.out (pr,ks) (by rw [← HPS.out]; exact List.mem_of_getElem? HPI.out) q0 (List.mem_of_getElem? hqj);obtain ⟨kl3,hkl3⟩:=(HLL.out.2.1 q0 (HMM.out.2.2.1 q0 hqm)).skeyR HG.out hn;have hlk:=(((HNX.out.via HBI2.out).via HBJ.out).via ((Below.refl wr.heap.size wr).al (.cells #[.bool q0.1.1,.int .i64 (q0.1.2:Int),.int .i64 (q0.2.1:Int),.int .i64 (q0.2.2:Int)] 71))).look hkl3;have hkv3:kyVal q0=.agg #[.bool q0.1.1,.int .i64 (q0.1.2:Int),.int .i64 (q0.2.1:Int),.int .i64 (q0.2.2:Int)]:=rfl;rw [hkv3] at hlk;have HBJ2:=Lib.hid (HBJ.out.al (.cells #[.bool q0.1.1,.int .i64 (q0.1.2:Int),.int .i64 (q0.2.1:Int),.int .i64 (q0.2.2:Int)] 71));have BQ:=Blk.new wr 71 #[.bool q0.1.1,.int .i64 (q0.1.2:Int),.int .i64 (q0.2.1:Int),.int .i64 (q0.2.2:Int)];have h1:=prodK_pos HRT2.out.inv.nn (ks:=ks.take j) (x:=1) (by omega) (by omega);have h2:=HRT2.out.inv.nn q0;have HPJ:=Lib.hid (show prodK N2 (ks.take (j+1)) 1=min (prodK N2 (ks.take j) 1*N2 q0) 1000000000 by rw [List.take_add_one,hqj]; exact prodK_snoc _ _ _ _);obtain ⟨x,hx⟩:∃ x,x=prodK N2 (ks.take j) 1:=⟨_,rfl⟩;rw [← hx] at h1 HPJ ⊢;obtain ⟨cv,hcv⟩:∃ cv,cv=N2 q0:=⟨_,rfl⟩;rw [← hcv] at h2 HPJ hlk;have hml:=mul_limT ⟨h1.1,h1.2.1⟩ h2
           have hwr:IntKind.i64.wrap (x*cv)=x*cv:=by
            have h1:=hml.1;have h2:=hml.2;exact IntWalk.i64_in _ (by omega)
           clear hcl hb9 hb3 hqj hqm hkl3 hkv3 h1 h2 hx hcv hml;have cBQ:=BQ.cell;have fBQ:=BQ.frozen;have lBQ:=BQ.lt;go_wp2_with fail;clear cBQ fBQ lBQ;exact ⟨⟨j+1,by go_num,by omega,by rw [HPJ.out],HBJ2⟩,by simp [intOf]; omega⟩
          ·obtain rfl:kn=j:=(by omega);have hkt:ks.take kn=ks:=List.take_of_length_le (by have:=HKS.out.len; omega);rw [hkt];have HPB:=Lib.hid (prodK_pos HRT2.out.inv.nn (ks:=ks) (x:=1) (by omega) (by omega));have HB10:=Lib.hid (HBI2.out.via HBJ.out);obtain ⟨x,hx⟩:∃ x,x=prodK N2 ks 1:=⟨_,rfl⟩;rw [← hx] at HPB HS1 HA1 ⊢;have hw1:IntKind.i64.wrap (su+x)=su+x:=IntWalk.i64_in _ (by have h1:=HPB.out; have h2:=HS0.out; omega);clear hkt hx;cases ab with
           | true =>
            by_cases hx0:(0:Int) < x
            ·go_wp2_with fail;exact ⟨⟨i+1,by go_num,by omega,by rw [HS1.out],by rw [HA1.out]; simp [hx0],HB10⟩,by simp [intOf]; omega⟩
            ·go_wp2_with fail;exact ⟨⟨i+1,by go_num,by omega,by rw [HS1.out],by rw [HA1.out]; simp [hx0],HB10⟩,by simp [intOf]; omega⟩
           | false =>
            go_wp2_with fail;exact ⟨⟨i+1,by go_num,by omega,by rw [HS1.out],by rw [HA1.out]; simp,HB10⟩,by simp [intOf]; omega⟩
        ·as_aux_lemma =>
         obtain rfl:pl=i:=(by omega);have hpt:ps.take pl=ps:=List.take_of_length_le (by rw [HPL.out]; exact Nat.le_refl _);rw [hpt];have HNZ:=Lib.hid (HNX.out.via HBI.out);have HBZ:=Lib.hid (HBX.out.via HBI.out);have BY:=HBY.out.via HBI.out;have HRXZ:=Lib.hid (HRX.out.via HBI.out);have HRYZ:=Lib.hid (HRY.out.via HBI.out);have HST:=Lib.hid (HRT2.out.step (left':=left3) HTM.out (fun k hk=>HLD.out k (HMM.out.2.2.1 k hk)) HMM.out.2.2.2 HYM.out HL3.out);have HN0:=Lib.hid (show ¬ 0 < N2 y2 by rw [← HQN.out]; omega);obtain ⟨su,hsu⟩:∃ su,su=sumK N2 ps 0:=⟨_,rfl⟩;obtain ⟨ab,hab⟩:∃ ab,ab=allK N2 ps:=⟨_,rfl⟩;rw [← hsu,← hab];have HSU:=Lib.hid hsu;have HAB:=Lib.hid hab;clear hsu hab hpt;have hne1:some r1≠some bn:=fun e=>by have:=Option.some.inj e; have:=HNL.out; omega
         have hne2:some r2≠some bn:=fun e=>by have:=Option.some.inj e; have:=HNL.out; omega
         have hne3:some bw≠some bn:=fun e=>by have:=Option.some.inj e; have:=HBN.out.1; have:=HBE.out; omega
         have HNE:=Lib.hid (And.intro hne1 (And.intro hne2 hne3));clear hne1 hne2 hne3
         have HGRW:=Lib.hid (show ∀ wz:World,World.grownBy wr wz (some bn)→Below w7.heap.size w7 wz∧RngK kyVal F wz r1 bw left1 cnt1∧RngK kyVal F wz r2 bw left3 cnt3 from fun wz hgz =>
          ⟨HBZ.out.grown hgz HBZ.out.size (fun b hb=>by have:=Option.some.inj hb; have:=HBE.out; omega),HRXZ.out.grown hgz HNE.out.1 HNE.out.2.2,HRYZ.out.grown hgz HNE.out.2.1 HNE.out.2.2⟩)
         have HFIN:=Lib.hid (show ∀ (wz:World) (N3:Ky→Int),stpK P N2 y2=N3→Below w7.heap.size w7 wz→NmM g n wz bn N3→RngK kyVal F wz r1 bw left1 cnt1→RngK kyVal F wz r2 bw left3 cnt3→(∃ (left2:Ky→Bool) (cnt2:Nat) (N2:Ky→Int),Hid (Below w7.heap.size w7 wz∧NmM g n wz bn N2∧RngK kyVal F wz r1 bw left1 cnt1∧RngK kyVal F wz r2 bw left2 cnt2∧RndT P M t left2 N2∧∀ k,left2 k=true→k∈M)) from fun wz N3 e h1 h2 h3 h4 =>
          ⟨left3,cnt3,N3,Lib.hid ⟨h1,h2,h3,h4,by rw [← e]; exact HST.out,fun k hk=>HMS.out k (HS3.out k hk)⟩⟩)
         have HLT3:=Lib.hid (show ∀ wz:World,RngK kyVal F wz r2 bw left3 cnt3→World.rngLeftK wz r2 < cntb from fun wz h=>by rw [h.left_eq]; exact HLT2.out);cases htb:y2.1.1 with
         | true =>
          have e:stpK P N2 y2=fun q=>if q=y2 then 1 else N2 q:=by unfold stpK; rw [if_neg HN0.out,if_pos htb]
          have HE:=Lib.hid e;obtain ⟨wz,hrun,hnm,hgz,hsz⟩:=HNZ.out.put HG.out hn HYK.out HKL.out 1;rw [hkv] at hrun;rw [htb] at hrun BY;have HNM:=Lib.hid hnm;have HGZ:=Lib.hid (HGRW.out wz hgz);clear e hnm hgz hsz HGRW;have cBY:=BY.cell;have fBY:=BY.frozen;have lBY:=BY.lt;go_wp2_with fail;exact ⟨HFIN.out wz _ HE.out HGZ.out.1 HNM.out HGZ.out.2.1 HGZ.out.2.2,by rw [HRE2.out]; exact HLT3.out wz HGZ.out.2.2⟩
         | false =>
          cases ab with
          | true =>
           have e:stpK P N2 y2=fun q=>if q=y2 then su else N2 q:=by unfold stpK; rw [if_neg HN0.out,if_neg (by rw [htb]; simp),← HPS.out,if_pos HAB.out.symm,← HSU.out]
           have HE:=Lib.hid e;obtain ⟨wz,hrun,hnm,hgz,hsz⟩:=HNZ.out.put HG.out hn HYK.out HKL.out su;rw [hkv] at hrun;rw [htb] at hrun BY;have HNM:=Lib.hid hnm;have HGZ:=Lib.hid (HGRW.out wz hgz);clear e hnm hgz hsz HGRW;have cBY:=BY.cell;have fBY:=BY.frozen;have lBY:=BY.lt;go_wp2_with fail;exact ⟨HFIN.out wz _ HE.out HGZ.out.1 HNM.out HGZ.out.2.1 HGZ.out.2.2,by rw [HRE2.out]; exact HLT3.out wz HGZ.out.2.2⟩
          | false =>
           have e:stpK P N2 y2=N2:=(by unfold stpK; rw [if_neg HN0.out,if_neg (by rw [htb]; simp),← HPS.out,if_neg (by rw [← HAB.out]; simp)]);have HE:=Lib.hid e;rw [htb] at BY;clear e HGRW;have cBY:=BY.cell;have fBY:=BY.frozen;have lBY:=BY.lt;go_wp2_with fail;exact ⟨HFIN.out wr _ HE.out HBZ.out HNZ.out HRXZ.out HRYZ.out,by rw [HRE2.out]; exact HLT3.out wr HRYZ.out⟩
end Go.Proofs.YtfcihnpmeabacaaGreatDoor
