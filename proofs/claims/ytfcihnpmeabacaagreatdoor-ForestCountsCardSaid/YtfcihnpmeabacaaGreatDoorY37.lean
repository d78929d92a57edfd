/- Texts SL, laid together. -/
import Derived.Test.YtfcihnpmeabacaaGreatDoorY1
import Derived.Test.YtfcihnpmeabacaaGreatDoorY33
import Derived.Test.YtfcihnpmeabacaaGreatDoorY12
namespace Go.Proofs.YtfcihnpmeabacaaGreatDoor
open Go.RowKit
open Go.Sort (grow alloc_eq_grow grow_grow grow_empty SWO)
theorem ints_news {w:World} {A:Option Addr} {n c:Nat} {xs:List Int} (h:Ints w A n c xs) (h0:0 < n):∃ b off,A=some ⟨b,off,none⟩∧∀ j u,(xs.map (Value.int .i64))[j]?=some u→w.cell? ((⟨b,off,none⟩:Addr).add j)=some u:=by
 obtain ⟨b,off,rfl,hc⟩:=h.2.2 h0;refine ⟨b,off,rfl,fun j u hu=>?_⟩;obtain ⟨hj,e⟩:=List.getElem?_eq_some_iff.1 hu;rw [List.length_map] at hj;rw [Addr.add_lit,hc j (by rw [← h.1]; exact hj),← e];simp [List.getD_eq_getElem?_getD,hj]
theorem run_append_one (w:World) (ty:TypeId) (b:Nat) (x:Int) (hb:Blk w b 3 #[.int .i64 x]) (A:Option Addr) (n c:Nat) (xs:List Int) (hx:Ints w A n c xs) (hn:n≤1000000) :
 ∃ A' c' w',(Builtin.append_ #[25,25] ty #[.slice (some ⟨b,0,none⟩) 1 1,.slice A n c]).run Tryz.prog w=.ok (.slice A' (n+1) c') w'∧Grw w w'∧Ints w' A' (n+1) c' (x::xs):=by
 obtain ⟨i,hi,hz,hs,hby⟩:=info_parts int_info
 rcases Nat.eq_zero_or_pos n with h0 | h0
 ·subst h0;have hxs:xs=[]:=List.eq_nil_of_length_eq_zero hx.1;subst hxs;refine ⟨some ⟨b,0,none⟩,1,w,?_,Grw.refl w,rfl,Nat.le_refl _,fun _=>⟨b,0,rfl,fun i hi=>?_⟩⟩
  ·have hf:=hb.frozen;cases A <;> simp [Builtin.append_,run_underlying Tryz.underlying25,sizeOf,typeInfo,hi,Builtin.lenOf,Builtin.firstCells,storeCells,loadCells,loadCellsFrom]
  ·have:i=0:=(by omega);subst this;rw [hb.cell]; rfl
 ·obtain ⟨b2,off,rfl,hc⟩:=ints_news hx h0
  have hrg:=run_append_grow (P:=Tryz.prog) w 25 ty 3 i _ Tryz.underlying25 hi hz ⟨b,0,none⟩ 1 1 [.int .i64 x] (by simp [hs]) (fun j u hu=>by
   cases j with
   | zero=>simp at hu; subst hu; rw [Addr.add_lit,hb.cell]; rfl
   | succ j=>simp at hu) ⟨b2,off,none⟩ n c (xs.map (Value.int .i64)) (by simp [hs,hx.1]) hc (by omega) (by omega) (by rw [hby]; exact growslice_fits (by omega) (by omega))
  rw [Nat.add_comm 1 n] at hrg;refine ⟨_,_,_,hrg,(Grw.refl w).dr.al _,by simp [hx.1],?_,fun _=>⟨w.heap.size,0,rfl,fun i hi=>?_⟩⟩
  ·exact grownCap_ge w (n+1) 1 _
  ·rw [Nat.zero_add];have e:w.heap.size=w.drew.heap.size:=(by simp);rw [e,World.cell?_alloc_new];have hl:=hx.1;rw [Array.getElem?_append_left (by simp; omega)];cases i with
   | zero=>simp
   | succ i =>
    have hi':i < xs.length:=(by omega);simp [List.getD_eq_getElem?_getD,hi']
theorem step_append_one {ops:Array Oper} {o:Oper} {a:Act} {K:Act→World→Prop} {Q:Exit→Act→World→Prop} {E:Prop} (w:World) (hgd:o.guard=none) (s y:Operand)
 (ho:o.op=.call { callee:=.builtin .append,args:=#[s,y],argTypes:=#[25,25] })
 (b:Nat) (x:Int) (hs:a.eval s=.slice (some ⟨b,0,none⟩) 1 1) (hb:Blk w b 3 #[.int .i64 x]) (A:Option Addr) (n c:Nat) (xs:List Int) (hy:a.eval y=.slice A n c) (hx:Ints w A n c xs) (hn:n≤1000000)
 (h:∀ A' c' w',Grw w w'→Ints w' A' (n+1) c' (x::xs)→K (a.put o.dst (.slice A' (n+1) c')) w') :
 if Region.wanted o (yielded ops a.tmps)=true then Oper.wp Tryz.prog o a w K Q else E:=by
 rw [if_pos (by simp [Region.wanted,hgd])];obtain ⟨A',c',w',hrun,h2,h3⟩:=run_append_one w o.type b x hb A n c xs hx hn;unfold Oper.wp execOp;simp only [ho,resolve,invoke,builtin,Sem.run_bind,Sem.run_pure,Result.andThen_ok,List.map_toArray,List.map_cons,List.map_nil,hs,hy,hrun];exact h A' c' w' h2 h3
set_option maxRecDepth 100000 in
set_option maxHeartbeats 8000000 in
theorem bpk2_c (r1 r2:Int) (A B:Option Addr) (n c m d:Nat) (xs ys:List Int) (w:World) (h1:Ints w A n c xs) (h2:Ints w B m d ys) (hn:n≤999999) (hm:m≤999999) :
 Calls Tryz.prog 48 #[.agg #[.int .i64 r1,.slice A n c],.agg #[.int .i64 r2,.slice B m d]] w (GrwI w (pkCmp (r1,xs) (r2,ys))):=by
 have B0:=(Blk.new w 104 #[.int .i64 r1,.slice A n c]).al (.cells #[.int .i64 r2,.slice B m d] 104);have B1:=Blk.newAt (w.alloc (.cells #[.int .i64 r1,.slice A n c] 104)) 104 #[.int .i64 r2,.slice B m d] (w.heap.size+1) (by simp);have HG:=Lib.hid (((Grw.refl w).al (.cells #[.int .i64 r1,.slice A n c] 104)).al (.cells #[.int .i64 r2,.slice B m d] 104));have HV:=Lib.hid (show pkCmp (r1,xs) (r2,ys)=cmpL (r1::xs) (r2::ys) from pkCmp_key _ _);have HL:=Lib.hid (And.intro h1.len h2.len);have HI1:=Lib.hid (h1.via HG.out.below);have HI2:=Lib.hid (h2.via HG.out.below);clear h1 h2;go_enter Tryz.func48,Tryz.ntmps48;go_upto_region 1 with fail;generalize (w.alloc (.cells #[.int .i64 r1,.slice A n c] 104)).alloc (.cells #[.int .i64 r2,.slice B m d] 104)=W at *;have SOF:=Lib.hid (show ∀ w',Grw W w'→((∀ i,w'.cell? ⟨w.heap.size,i,none⟩=#[.int .i64 r1,.slice A n c][i]?)∧(∀ i,w'.cell? ⟨w.heap.size+1,i,none⟩=#[.int .i64 r2,.slice B m d][i]?)∧Grw W w') from fun w' hb=>⟨(B0.via hb.below).cell,(B1.via hb.below).cell,hb⟩);have J1:=Lib.hid (show ∀ w',Grw W w'→Ints w' A n c xs from fun w' hb=>HI1.out.via hb.below);have J2:=Lib.hid (show ∀ w',Grw W w'→Ints w' B m d ys from fun w' hb=>HI2.out.via hb.below);have hb0:=(Grw.refl W).dr;clear B0 B1;have hHeld:=SOF.out _ hb0;refine wp_region_L 13 (fun w'=>(∀ i,w'.cell? ⟨w.heap.size,i,none⟩=#[.int .i64 r1,.slice A n c][i]?)∧(∀ i,w'.cell? ⟨w.heap.size+1,i,none⟩=#[.int .i64 r2,.slice B m d][i]?)∧Grw W w') (by kernel_rfl) ?_;refine tkL 0 5 ?_;refine tkL 1 6 ?_;refine tkL 3 8 ?_;refine tkL 4 9 ?_;refine tkL 6 11 ?_;refine tkL 7 12 ?_;refine tkL 9 14 ?_;refine tkL 10 15 ?_;generalize W.drew=W0 at *;clear hHeld
 -- orders begin
 have hHeld:=SOF.out _ hb0;refine wpAnyL.ready (rs:=[2,8]) (by kernel_rfl) (by simp) ?_;refine AllL.cons rfl (fun K hK=>?_) (AllL.cons rfl (fun K hK=>?_) AllL.nil)
 ·clear hHeld;go_simp;have hg1:=hb0.al (.cells #[.int .i64 r1] 3);have hal:=(Below.refl W0.heap.size W0).al (.cells #[.int .i64 r1] 3);have hk1:=Blk.new W0 3 #[.int .i64 r1];refine hK.out _ _ (fun _=>SOF.out _ hg1) ?_;clear hK K hal;try simp only [Act.put,List.setIfInBounds_toArray,List.set_cons_zero,List.set_cons_succ]
  generalize W0.alloc (.cells #[.int .i64 r1] 3)=v1 at *;generalize W0.heap.size=bk1 at *;have hHeld:=SOF.out _ hg1;refine wpAnyL.ready (rs:=[5,8]) (by kernel_rfl) (by simp) ?_;refine AllL.cons rfl (fun K hK=>?_) (AllL.cons rfl (fun K hK=>?_) AllL.nil)
  ·clear hHeld;refine step_append_one v1 rfl (.tmp 7) (.tmp 9) rfl bk1 r1 rfl hk1 A n c xs rfl (J1.out _ hg1) (by omega) ?_;intro A1 c1 v2 hgo hi1;have hg2:=hg1.trans hgo;refine hK.out _ _ (fun _=>SOF.out _ hg2) ?_;clear hK K hgo hk1;try dsimp only [Act.put]
   have hHeld:=SOF.out _ hg2;refine wpAnyL.ready (rs:=[8]) (by kernel_rfl) (by simp) ?_;refine AllL.cons rfl (fun K hK=>?_) AllL.nil;clear hHeld;go_simp;have hg3:=hg2.al (.cells #[.int .i64 r2] 3);have hal:=(Below.refl v2.heap.size v2).al (.cells #[.int .i64 r2] 3);replace hi1:=hi1.via hal;have hk2:=Blk.new v2 3 #[.int .i64 r2];refine hK.out _ _ (fun _=>SOF.out _ hg3) ?_;clear hK K hal;try simp only [Act.put,List.setIfInBounds_toArray,List.set_cons_zero,List.set_cons_succ]
   generalize v2.alloc (.cells #[.int .i64 r2] 3)=v3 at *;generalize v2.heap.size=bk2 at *;have hHeld:=SOF.out _ hg3;refine wpAnyL.ready (rs:=[11]) (by kernel_rfl) (by simp) ?_;refine AllL.cons rfl (fun K hK=>?_) AllL.nil;clear hHeld;refine step_append_one v3 rfl (.tmp 13) (.tmp 15) rfl bk2 r2 rfl hk2 B m d ys rfl (J2.out _ hg3) (by omega) ?_;intro A2 c2 v4 hgo hi2;have hg4:=hg3.trans hgo;replace hi1:=hi1.via hgo.below;refine hK.out _ _ (fun _=>SOF.out _ hg4) ?_;clear hK K hgo hk2;try dsimp only [Act.put]
   have hHeld:=SOF.out _ hg4;refine wpAnyL.ready (rs:=[12]) (by kernel_rfl) (by simp) ?_;refine AllL.cons rfl (fun K hK=>?_) AllL.nil;go_simp
   go_at_call 49
   refine (cmpL_c A1 A2 (n+1) c1 (m+1) c2 (r1::xs) (r2::ys) v4 hi1 hi2 (by have:=HL.out.1; have:=HL.out.2; simp; omega)).mono ?_;rintro ee wk2 ⟨rfl,rfl⟩;dsimp only;go_wp2_with fail;refine hK.out _ _ (fun _=>SOF.out _ hg4) ?_;clear hK K;try dsimp only [Act.put]
   refine wpAnyL.ready (rs:=[13]) (by kernel_rfl) (by simp) ?_;refine AllL.cons rfl (fun K hK=>?_) AllL.nil;go_simp;refine hK.out _ _ (fun h=>absurd rfl h) ?_;clear hK K;refine wpAnyL.done (by kernel_rfl) ?_ _;try refine NoPanic.normal ?_
   go_wp2_with fail;go_ret;exact ⟨by rw [HV.out]; rfl,HG.out.trans hg4⟩
  ·clear hHeld;go_simp;have hg5:=hg1.al (.cells #[.int .i64 r2] 3);have hal:=(Below.refl v1.heap.size v1).al (.cells #[.int .i64 r2] 3);replace hk1:=hk1.via hal;have hk2:=Blk.new v1 3 #[.int .i64 r2];refine hK.out _ _ (fun _=>SOF.out _ hg5) ?_;clear hK K hal;try simp only [Act.put,List.setIfInBounds_toArray,List.set_cons_zero,List.set_cons_succ]
   generalize v1.alloc (.cells #[.int .i64 r2] 3)=v5 at *;generalize v1.heap.size=bk2 at *;have hHeld:=SOF.out _ hg5;refine wpAnyL.ready (rs:=[5]) (by kernel_rfl) (by simp) ?_;refine AllL.cons rfl (fun K hK=>?_) AllL.nil;clear hHeld;refine step_append_one v5 rfl (.tmp 7) (.tmp 9) rfl bk1 r1 rfl hk1 A n c xs rfl (J1.out _ hg5) (by omega) ?_;intro A1 c1 v6 hgo hi1;have hg6:=hg5.trans hgo;replace hk2:=hk2.via hgo.below;refine hK.out _ _ (fun _=>SOF.out _ hg6) ?_;clear hK K hgo hk1;try dsimp only [Act.put]
   have hHeld:=SOF.out _ hg6;refine wpAnyL.ready (rs:=[11]) (by kernel_rfl) (by simp) ?_;refine AllL.cons rfl (fun K hK=>?_) AllL.nil;clear hHeld;refine step_append_one v6 rfl (.tmp 13) (.tmp 15) rfl bk2 r2 rfl hk2 B m d ys rfl (J2.out _ hg6) (by omega) ?_;intro A2 c2 v7 hgo hi2;have hg7:=hg6.trans hgo;replace hi1:=hi1.via hgo.below;refine hK.out _ _ (fun _=>SOF.out _ hg7) ?_;clear hK K hgo hk2;try dsimp only [Act.put]
   have hHeld:=SOF.out _ hg7;refine wpAnyL.ready (rs:=[12]) (by kernel_rfl) (by simp) ?_;refine AllL.cons rfl (fun K hK=>?_) AllL.nil;go_simp
   go_at_call 49
   refine (cmpL_c A1 A2 (n+1) c1 (m+1) c2 (r1::xs) (r2::ys) v7 hi1 hi2 (by have:=HL.out.1; have:=HL.out.2; simp; omega)).mono ?_;rintro ee wk2 ⟨rfl,rfl⟩;dsimp only;go_wp2_with fail;refine hK.out _ _ (fun _=>SOF.out _ hg7) ?_;clear hK K;try dsimp only [Act.put]
   refine wpAnyL.ready (rs:=[13]) (by kernel_rfl) (by simp) ?_;refine AllL.cons rfl (fun K hK=>?_) AllL.nil;go_simp;refine hK.out _ _ (fun h=>absurd rfl h) ?_;clear hK K;refine wpAnyL.done (by kernel_rfl) ?_ _;try refine NoPanic.normal ?_
   go_wp2_with fail;go_ret;exact ⟨by rw [HV.out]; rfl,HG.out.trans hg7⟩
 ·clear hHeld;go_simp;have hg8:=hb0.al (.cells #[.int .i64 r2] 3);have hal:=(Below.refl W0.heap.size W0).al (.cells #[.int .i64 r2] 3);have hk2:=Blk.new W0 3 #[.int .i64 r2];refine hK.out _ _ (fun _=>SOF.out _ hg8) ?_;clear hK K hal;try simp only [Act.put,List.setIfInBounds_toArray,List.set_cons_zero,List.set_cons_succ]
  generalize W0.alloc (.cells #[.int .i64 r2] 3)=v8 at *;generalize W0.heap.size=bk2 at *;have hHeld:=SOF.out _ hg8;refine wpAnyL.ready (rs:=[2]) (by kernel_rfl) (by simp) ?_;refine AllL.cons rfl (fun K hK=>?_) AllL.nil;clear hHeld;go_simp;have hg9:=hg8.al (.cells #[.int .i64 r1] 3);have hal:=(Below.refl v8.heap.size v8).al (.cells #[.int .i64 r1] 3);replace hk2:=hk2.via hal;have hk1:=Blk.new v8 3 #[.int .i64 r1];refine hK.out _ _ (fun _=>SOF.out _ hg9) ?_;clear hK K hal;try simp only [Act.put,List.setIfInBounds_toArray,List.set_cons_zero,List.set_cons_succ]
  generalize v8.alloc (.cells #[.int .i64 r1] 3)=v9 at *;generalize v8.heap.size=bk1 at *;have hHeld:=SOF.out _ hg9;refine wpAnyL.ready (rs:=[5]) (by kernel_rfl) (by simp) ?_;refine AllL.cons rfl (fun K hK=>?_) AllL.nil;clear hHeld;refine step_append_one v9 rfl (.tmp 7) (.tmp 9) rfl bk1 r1 rfl hk1 A n c xs rfl (J1.out _ hg9) (by omega) ?_;intro A1 c1 v10 hgo hi1;have hg10:=hg9.trans hgo;replace hk2:=hk2.via hgo.below;refine hK.out _ _ (fun _=>SOF.out _ hg10) ?_;clear hK K hgo hk1;try dsimp only [Act.put]
  have hHeld:=SOF.out _ hg10;refine wpAnyL.ready (rs:=[11]) (by kernel_rfl) (by simp) ?_;refine AllL.cons rfl (fun K hK=>?_) AllL.nil;clear hHeld;refine step_append_one v10 rfl (.tmp 13) (.tmp 15) rfl bk2 r2 rfl hk2 B m d ys rfl (J2.out _ hg10) (by omega) ?_;intro A2 c2 v11 hgo hi2;have hg11:=hg10.trans hgo;replace hi1:=hi1.via hgo.below;refine hK.out _ _ (fun _=>SOF.out _ hg11) ?_;clear hK K hgo hk2;try dsimp only [Act.put]
  have hHeld:=SOF.out _ hg11;refine wpAnyL.ready (rs:=[12]) (by kernel_rfl) (by simp) ?_;refine AllL.cons rfl (fun K hK=>?_) AllL.nil;go_simp
  go_at_call 49
  refine (cmpL_c A1 A2 (n+1) c1 (m+1) c2 (r1::xs) (r2::ys) v11 hi1 hi2 (by have:=HL.out.1; have:=HL.out.2; simp; omega)).mono ?_;rintro ee wk2 ⟨rfl,rfl⟩;dsimp only;go_wp2_with fail;refine hK.out _ _ (fun _=>SOF.out _ hg11) ?_;clear hK K;try dsimp only [Act.put]
  refine wpAnyL.ready (rs:=[13]) (by kernel_rfl) (by simp) ?_;refine AllL.cons rfl (fun K hK=>?_) AllL.nil;go_simp;refine hK.out _ _ (fun h=>absurd rfl h) ?_;clear hK K;refine wpAnyL.done (by kernel_rfl) ?_ _;try refine NoPanic.normal ?_
  go_wp2_with fail;go_ret;exact ⟨by rw [HV.out]; rfl,HG.out.trans hg11⟩
 -- orders end
theorem so_uniq {l l':List PkI} (hs:l.Pairwise fun a b=>pkCmp a b < 0) (hp:l'.Perm l) (h:l'.Pairwise fun a b=>pkCmp a b≤0):l'=l:=by
 refine List.Perm.eq_of_pairwise (le:=fun a b=>pkCmp a b≤0) (fun a b _ _ h1 h2=>?_) h (hs.imp fun h=>Int.le_of_lt h) hp;rw [pkCmp_key] at h1 h2;have h3:=cmpL_anti (a.1::a.2) (b.1::b.2);have h4:cmpL (a.1::a.2) (b.1::b.2)=0:=(by omega);have h5:=cmpL_zero.1 h4;simp only [List.cons.injEq] at h5;exact Prod.ext h5.1 h5.2
def SortPkP (ok:Nat→Prop) (base n:Nat) (A:Option Addr) (c:Nat) (l:List PkI) (w:World) (en:Ending) (w':World):Prop :=
 en=.returned (.tuple #[])∧Own FpE 104 ok w' base (.slice A n c) n l∧Below base w w'∧w.heap.size≤w'.heap.size
set_option maxRecDepth 100000 in
theorem sortPk_c (ok:Nat→Prop) (w:World) (base n:Nat) (A:Option Addr) (c:Nat) (l:List PkI) (hn:n≤1000000) (hl:∀ x∈l,x.2.length≤999999) (hs:l.Pairwise fun a b=>pkCmp a b < 0) (hown:Own FpE 104 ok w base (.slice A n c) n l) :
 Calls Tryz.prog 47 #[.slice A n c,.func (.func 48) #[] #[]] w (SortPkP ok base n A c l w):=by
 refine (sort_x FpE laysPack Tryz.isAgg104 Tryz.sizeOf104 48 #[] (enters_c (c:=_) (fn:=Tryz.f48) rfl (by kernel_rfl) rfl) pkCmp (fun p=>swoKey (fun a:PkI=>a.1::a.2) pkCmp pkCmp_key p) (antiKey (fun a:PkI=>a.1::a.2) pkCmp pkCmp_key) 104 ok (fun x=>x.2.length≤999999) w base n A c l hn hl hown ?_).mono ?_
 ·rintro g - W hagr - ⟨⟨⟨r,rA,rn,rc⟩,x⟩,⟨h1,h2⟩,hx⟩ ⟨⟨⟨q,qA,qn,qc⟩,y⟩,⟨k1,k2⟩,hy⟩;simp only at h1 h2 hx k1 k2 hy;obtain ⟨x1,x2⟩:=x;obtain ⟨y1,y2⟩:=y;simp only at h1 h2 hx k1 k2 hy;subst h1 k1;have e1:=h2.len;have e2:=k2.len;exact bpk2_c r q rA qA rn rc qn qc x2 y2 W (h2.agr (hagr.mono fun b hb=>fun e=>hb.2 (by rw [e]))).intsIn (k2.agr (hagr.mono fun b hb=>fun e=>hb.2 (by rw [e]))).intsIn (by omega) (by omega)
 ·rintro en w' ⟨rfl,l',hp,hso,ho,hb,-,hsz⟩;rw [so_uniq hs hp hso] at ho;exact ⟨rfl,ho,hb,hsz⟩
end Go.Proofs.YtfcihnpmeabacaaGreatDoor
