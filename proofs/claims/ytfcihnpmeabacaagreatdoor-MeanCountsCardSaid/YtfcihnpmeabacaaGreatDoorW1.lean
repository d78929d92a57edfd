/- Texts KA, RG, RI, KV, KB, KC, laid together. -/
import Derived.Test.YtfcihnpmeabacaaGreatDoorRows
import Derived.WalkKit
import Derived.WalkSpells
import Derived.WalkLawsBesides
import Derived.BigQuiet
import Derived.Deep.QuietTactic
import Derived.Deep.RegionHeld3
import Derived.StillTailTactics
import Derived.Deep.DeepFit
import Derived.Deep.DeepCutAuto
import Derived.Deep.LoopGhost
import Derived.Deep.DeepMust
import Derived.Lib.Hide
import Derived.Maps.AppendAt
import Derived.Deep.AppendLies
import Derived.Deep.RegionHeld
namespace Go.Proofs.YtfcihnpmeabacaaGreatDoor
open Go.RowKit
def Ints (w:World) (A:Option Addr) (n c:Nat) (xs:List Int):Prop :=
 xs.length=n∧n≤c∧(0 < n→∃ b off,A=some ⟨b,off,none⟩∧∀ i,i < n→w.cell? ⟨b,off+i,none⟩=some (.int .i64 (xs.getD i 0)))
section
variable {w w':World} {A:Option Addr} {n c:Nat} {xs:List Int}
theorem Ints.len (h:Ints w A n c xs):xs.length=n:=h.1
theorem Ints.le (h:Ints w A n c xs):n≤c:=h.2.1
theorem Ints.nil (w:World):Ints w none 0 0 []:=⟨rfl,Nat.le_refl _,fun h=>absurd h (by omega)⟩
theorem Ints.at_ (h:Ints w A n c xs) {k:Nat} (hk:k < n):∃ b off,A=some ⟨b,off,none⟩∧b < w.heap.size∧w.cell? ⟨b,off+k,none⟩=some (.int .i64 (xs.getD k 0)):=by
 obtain ⟨b,off,e,hc⟩:=h.2.2 (by omega);have:=hc k hk;exact ⟨b,off,e,World.block_lt_of_cell? w _ this,this⟩
theorem Ints.keep (h:Ints w A n c xs) {B:Nat} (hb:Below B w w') (hB:w.heap.size≤B):Ints w' A n c xs :=
 ⟨h.1,h.2.1,fun hn=>by
  obtain ⟨b,off,e,hc⟩:=h.2.2 hn;refine ⟨b,off,e,fun i hi=>?_⟩;rw [hb.cell (p:=⟨b,off+i,none⟩)]
  ·exact hc i hi
  ·exact Nat.lt_of_lt_of_le (World.block_lt_of_cell? w _ (hc i hi)) hB⟩
theorem Ints.drewN (h:Ints w A n c xs) (k:Nat):Ints (w.drewN k) A n c xs:=h
theorem Ints.cut (h:Ints w A n c xs) {l m:Nat} (hl:l≤m) (hm:m≤n) :
 Ints w (if c=l then A else A.map (·.add (l*1))) (m - l) (c - l) ((xs.take m).drop l):=by
 have hle:=h.2.1;refine ⟨by simp [h.1]; omega,by omega,fun hn=>?_⟩;obtain ⟨b,off,e,hc⟩:=h.2.2 (by omega);rw [if_neg (by omega)];refine ⟨b,off+l,?_,fun i hi=>?_⟩
 ·subst e; simp only [Option.map_some,Nat.mul_one];unfold Addr.add
  split
  ·rename_i h0; simp [h0]
  ·rfl
 ·have:=hc (l+i) (by omega);rw [← Nat.add_assoc] at this;rw [this]
  congr 2
  simp only [List.getD_eq_getElem?_getD,List.getElem?_drop,List.getElem?_take];rw [if_pos (by omega)]
theorem Ints.head (h:Ints w A n c xs) {m:Nat} (hm:m≤n):Ints w A m c (xs.take m):=by
 refine ⟨by simp [h.1]; omega,Nat.le_trans hm h.2.1,fun hn=>?_⟩;obtain ⟨b,off,e,hc⟩:=h.2.2 (by omega);refine ⟨b,off,e,fun i hi=>?_⟩;rw [hc i (by omega)]
 congr 2
 simp only [List.getD_eq_getElem?_getD,List.getElem?_take];rw [if_pos hi]
theorem Ints.tail (h:Ints w A n c xs) {l:Nat} (hl:l≤n):∃ A',(if c=l then A else Option.map (fun x=>x.add l) A)=A'∧Ints w A' (n - l) (c - l) (xs.drop l):=by
 have h':=Ints.cut h hl (Nat.le_refl n);rw [List.take_of_length_le (by rw [h.1]; exact Nat.le_refl _),Nat.mul_one] at h';exact ⟨_,rfl,h'⟩
theorem Ints.mid (h:Ints w A n c xs) {l m:Nat} (hl:l≤m) (hm:m≤n):∃ A',(if c=l then A else Option.map (fun x=>x.add l) A)=A'∧Ints w A' (m - l) (c - l) ((xs.take m).drop l):=by
 have h':=Ints.cut h hl hm;rw [Nat.mul_one] at h';exact ⟨_,rfl,h'⟩
theorem Ints.drew (h:Ints w A n c xs):Ints w.drew A n c xs:=h
end
@[go_sem] theorem World.cell?_setCell_apart (w:World) (b i c j:Nat) (v:Value) (h:b≠c):(w.setCell ⟨b,i,none⟩ v).cell? ⟨c,j,none⟩=w.cell? ⟨c,j,none⟩ :=
 World.cell?_setCell_other w _ _ v (fun e=>h (congrArg Addr.block e))
def Blk (w:World) (g:Nat) (t:TypeId) (cs:Array Value):Prop:=w.heap[g]?=some (.cells cs t (0,0))
section
variable {w w':World} {g:Nat} {t:TypeId} {cs:Array Value}
theorem Blk.lt (h:Blk w g t cs):g < w.heap.size:=(Array.getElem?_eq_some_iff.1 h).1
theorem Blk.cell (h:Blk w g t cs) (i:Nat):w.cell? ⟨g,i,none⟩=cs[i]?:=cell_of_row w g i cs t (0,0) h
theorem Blk.frozen (h:Blk w g t cs) (i:Nat):w.frozen? ⟨g,i,none⟩=false:=by
 unfold Blk at h;simp [World.frozen?,h]
theorem Blk.new (w:World) (t:TypeId) (cs:Array Value):Blk (w.alloc (.cells cs t)) w.heap.size t cs:=heap_alloc_new w _
theorem Blk.drew (h:Blk w g t cs):Blk w.drew g t cs:=h
theorem Blk.alloc (h:Blk w g t cs) (o:Obj):Blk (w.alloc o) g t cs:=(Below.heap_alloc w o g h.lt).trans h
theorem Blk.set_ (h:Blk w g t cs) (i:Nat) (u:Value):Blk (w.setCell ⟨g,i,none⟩ u) g t (cs.setIfInBounds i u):=by
 unfold Blk at h ⊢;simp [World.setCell,Array.getElem?_modify,h]
theorem Blk.far (h:Blk w g t cs) {p:Addr} (hp:g≠p.block) (u:Value):Blk (w.setCell p u) g t cs:=(Below.heap_setCell w p u g hp).trans h
theorem Blk.below {B:Nat} (h:Blk w g t cs) (hb:Below B w w') (hg:g < B):Blk w' g t cs:=(hb.block g hg).trans h
theorem Blk.grown {row:Option Nat} (h:Blk w g t cs) (hb:w.grownBy w' row) (hg:some g≠row):Blk w' g t cs:=(hb.block g h.lt hg).trans h
end
section
variable {w w' w0:World} {A:Option Addr} {n c g:Nat} {xs:List Int} {t:TypeId} {cs:Array Value}
theorem Ints.via (h:Ints w A n c xs) (hb:Below w.heap.size w w'):Ints w' A n c xs:=h.keep hb (Nat.le_refl _)
theorem Ints.al (h:Ints w A n c xs) (o:Obj):Ints (w.alloc o) A n c xs:=h.keep ((Below.refl w.heap.size w).alloc (Nat.le_refl _) o) (Nat.le_refl _)
theorem Ints.dr (h:Ints w A n c xs):Ints w.drew A n c xs:=h
theorem Blk.via (h:Blk w g t cs) (hb:Below w.heap.size w w'):Blk w' g t cs:=h.below hb h.lt
theorem Blk.al (h:Blk w g t cs) (o:Obj):Blk (w.alloc o) g t cs:=h.alloc o
theorem Blk.dr (h:Blk w g t cs):Blk w.drew g t cs:=h
theorem _root_.Go.RowKit.Below.via (h:Below w0.heap.size w0 w) (hb:Below w.heap.size w w'):Below w0.heap.size w0 w':=h.trans (hb.mono h.size)
theorem _root_.Go.RowKit.Below.al (h:Below w0.heap.size w0 w) (o:Obj):Below w0.heap.size w0 (w.alloc o):=h.alloc h.size o
theorem _root_.Go.RowKit.Below.dr (h:Below w0.heap.size w0 w):Below w0.heap.size w0 w.drew:=h.drew
theorem Ints.far (h:Ints w A n c xs) {p:Addr} (hp:∀ ad,A=some ad→ad.block≠p.block) (u:Value):Ints (w.setCell p u) A n c xs:=by
 refine ⟨h.1,h.2.1,fun hn=>?_⟩;obtain ⟨b,off,e,hc⟩:=h.2.2 hn;refine ⟨b,off,e,fun i hi=>?_⟩;rw [World.cell?_setCell_other w p ⟨b,off+i,none⟩ u (fun e'=>hp _ e (by rw [e']))];exact hc i hi
end
def belowI (x n:Int):Int:=if x.tmod n < 0 then x.tmod n+n else x.tmod n
theorem tmod_lo (x n:Int) (h:1≤n):-n < x.tmod n:=by
 rcases Int.le_total 0 x with hx | hx
 ·have:=Int.tmod_nonneg (b:=n) hx; omega
 ·have h1:=Int.tmod_lt_of_pos (-x) (show 0 < n by omega);rw [Int.neg_tmod] at h1; omega
theorem belowI_lo (x n:Int) (h1:1≤n):0≤belowI x n:=by
 have:=Int.tmod_lt_of_pos x (show 0 < n by omega);have:=tmod_lo x n h1;unfold belowI; split <;> omega
theorem belowI_hi (x n:Int) (h1:1≤n):belowI x n < n:=by
 have:=Int.tmod_lt_of_pos x (show 0 < n by omega);unfold belowI; split <;> omega
set_option maxHeartbeats 400000 in
theorem below_c (x n:Int) (w:World) (h1:1≤n) (h2:n≤1000000000000) :
 Calls Tryz.prog 51 #[.int .i64 x,.int .i64 n] w fun e w'=>e=.returned (.int .i64 (belowI x n))∧w=w':=by
 have b1:=Int.tmod_lt_of_pos x (show 0 < n by omega);have b2:=tmod_lo x n h1
 by_cases hx:x.tmod n < 0
 all_goals
  have hv:Hid (belowI x n=_):=(show belowI x n=ite _ _ _ from rfl);go_enter Tryz.func51,Tryz.ntmps51
  go_wp2
  go_ret;rw [hv.out];refine ⟨?_,rfl⟩
  congr 2
  repeat (first | rfl | omega | split)
end Go.Proofs.YtfcihnpmeabacaaGreatDoor
namespace Go.Proofs.YtfcihnpmeabacaaGreatDoor
open Go.RowKit
def waitsFor (md:Region.Mode) (ops:Array Oper) (z i:Nat):Bool:=match ops[z]? with
 | some o=>o.after.any fun e=>Region.binds md e&&e.on==i
 | none=>false
def wpAnyL (P:Program) (md:Region.Mode) (ops:Array Oper) (Q:Exit→Act→World→Prop) (S:World→Prop) (z:Nat):Nat→Array Bool→Act→World→Prop
 | 0,l,a,w=>Region.ready md ops l=[]∧Q .normal a w
 | n+1,l,a,w=>(Region.ready md ops l=[]→Q .normal a w)∧∀ i∈Region.ready md ops l,wpOp P ops Q i (fun a' w'=>(i≠z→S w')∧wpAnyL P md ops Q S z n (l.setIfInBounds i true) a' w') a w
section
variable {P:Program} {ops:Array Oper} {Q:Exit→Act→World→Prop} {md:Region.Mode} {S:World→Prop} {z:Nat}
theorem wpAnyL.any:∀ (n:Nat) (l:Array Bool) (a:Act) (w:World),wpAnyL P md ops Q S z n l a w→wpAny P md ops Q n l a w
 | 0,_,_,_,h=>h
 | n+1,_,_,_,h=>⟨h.1,fun i hi=>wpOp_mono (fun a' w' q=>wpAnyL.any n _ a' w' q.2) (h.2 i hi)⟩
theorem wpAnyL.first {i:Nat} {o:Oper} {v:Value} (hi:ops[i]?=some o) (hsel:Region.noSelect ops=true) (hz:waitsFor md ops z i=true) (hQ:∀ c a w,Q (.panic c) (a.put o.dst v) w→Q (.panic c) a w):∀ (n:Nat) (l:Array Bool) (a:Act) (w:World),
 (∀ j p,ops[j]?=some p→j≠i→l.getD j true=false→(∀ e∈p.after,Region.binds md e=true→e.on≠i)→o.apart ops p=true)→i∈Region.ready md ops l→YieldsIf P ops S o v a→S w →
 wpAnyL P md ops Q S z n (l.setIfInBounds i true) (a.put o.dst v) w→wpAnyL P md ops Q S z (n+1) l a w:=by
 intro n
 induction n with
 | zero =>
  intro l a w _ hr hy hS H;refine ⟨fun e=>absurd (e ▸ hr) (by simp),fun j hj=>?_⟩
  by_cases e:j=i
  ·subst e; exact hy.wpOp hi hS ⟨fun _=>hS,H⟩
  ·exact absurd (H.1 ▸ ready_mono hj e) (by simp)
 | succ n ih =>
  intro l a w hf hr hy hS H;refine ⟨fun e=>absurd (e ▸ hr) (by simp),fun j hj=>?_⟩
  by_cases e:j=i
  ·subst e; exact hy.wpOp hi hS ⟨fun _=>hS,H⟩
  ·obtain ⟨k0,p,hp,k1⟩:=mem_ready.1 hj;have k2:=(mem_ready.1 hr).1
   have k3:∀ x∈p.after,Region.binds md x=true→x.on≠i:=fun x hx hb q=>by
    have k4:=k1 x hx hb;rw [q] at k4
    rcases Nat.lt_or_ge i l.size with hl | hl
    ·simp [hl] at k2 k4; rw [k2] at k4; cases k4
    ·simp [Array.getElem?_eq_none hl] at k4
   have hjz:j≠z:=fun q=>by
    subst q;unfold waitsFor at hz;rw [hp] at hz;obtain ⟨x,hx,hb⟩:=Array.any_eq_true'.1 hz;simp only [Bool.and_eq_true,beq_iff_eq] at hb;exact k3 x hx hb.1 hb.2
   have k5:=wpOp_putIf hp (hf j p hp e k0 k3) (fun cs b=>Region.noSelect_spec hsel i o cs b hi) (fun cs b=>Region.noSelect_spec hsel j p cs b hp) hQ hy (H.2 j (ready_mono hj e));refine wpOp_mono (fun a' w' q=>?_) k5;obtain ⟨q1,q2,q3⟩:=q
   have hf':∀ k p,ops[k]?=some p→k≠i→(l.setIfInBounds j true).getD k true=false→(∀ e∈p.after,Region.binds md e=true→e.on≠i)→o.apart ops p=true:=fun k p' hk hki hun hno=>by
    refine hf k p' hk hki ?_ hno
    by_cases hjk:j=k
    ·subst hjk; exact k0
    ·rw [getD_set_ne true hjk] at hun; exact hun
   exact ⟨fun _=>q2 hjz,ih _ a' w' hf' (ready_mono hr (Ne.symm e)) q1 (q2 hjz) (by rw [Array.setIfInBounds_comm _ _ e]; exact q3)⟩
theorem wpAnyL.take {i:Nat} {oi:Oper} {d:Option Tmp} {v:Value} {n:Nat} {l:Array Bool} {a:Act} {w:World} (hi:ops[i]?=some oi)
 (hs:Region.noSelect ops=true) (hf:Region.free md ops l i=true) (hr:(Region.ready md ops l).contains i=true) (hz:waitsFor md ops z i=true) (hd:oi.dst=d)
 (hQ:∀ c a w,Q (.panic c) (a.put oi.dst v) w→Q (.panic c) a w) (hy:YieldsIf P ops S oi v a) (hS:S w)
 (h:wpAnyL P md ops Q S z n (l.setIfInBounds i true) (a.put d v) w):wpAnyL P md ops Q S z (n+1) l a w :=
 wpAnyL.first hi hs hz hQ n l a w (Region.free_spec hi hf) (by simpa using hr) hy hS (hd ▸ h)
def AllL (P:Program) (md:Region.Mode) (ops:Array Oper) (Q:Exit→Act→World→Prop) (S:World→Prop) (z n:Nat) (l:Array Bool) (a:Act) (w:World) (rs:List Nat):Prop :=
 ∀ i∈rs,wpOp P ops Q i (fun a' w'=>(i≠z→S w')∧wpAnyL P md ops Q S z n (l.setIfInBounds i true) a' w') a w
theorem AllL.nil {n:Nat} {l:Array Bool} {a:Act} {w:World}:AllL P md ops Q S z n l a w []:=fun _ h=>by cases h
theorem AllL.cons {n:Nat} {l:Array Bool} {a:Act} {w:World} {i:Nat} {o:Oper} {rs:List Nat} (ho:ops[i]?=some o)
 (h:∀ K:Act→World→Prop,Shut (∀ a w,(i≠z→S w)→wpAnyL P md ops Q S z n (l.setIfInBounds i true) a w→K a w)→if Region.wanted o (yielded ops a.tmps)=true then Oper.wp P o a w K Q else K (a.put o.dst undef) w)
 (hs:AllL P md ops Q S z n l a w rs):AllL P md ops Q S z n l a w (i::rs):=fun j hj=>by
 rcases List.mem_cons.1 hj with rfl | hj
 ·exact wpOp_step ho fun K hK=>h K fun a w hS hW=>hK a w ⟨hS,hW⟩
 ·exact hs j hj
theorem wpAnyL.ready {rs:List Nat} {n:Nat} {l:Array Bool} {a:Act} {w:World} (hr:Region.ready md ops l=rs) (hne:rs≠[]) (h:AllL P md ops Q S z n l a w rs):wpAnyL P md ops Q S z (n+1) l a w :=
 ⟨fun e=>absurd (hr ▸ e) hne,hr ▸ h⟩
theorem wpAnyL.done {l:Array Bool} {a:Act} {w:World} (hr:Region.ready md ops l=[]) (h:Q .normal a w):∀ n,wpAnyL P md ops Q S z n l a w
 | 0=>⟨hr,h⟩
 | _+1=>⟨fun _=>h,by rw [hr]; simp⟩
theorem wp_region_L {id:Nat} {a:Act} {w:World} (z:Nat) (S:World→Prop) (hm:P.follows .mixedOrders=true) (h:wpAnyL P .any ops Q S z ops.size (Array.replicate ops.size false) a w.drew):(Code.region id ops true).wp P Q a w :=
 wp_region_any hm (wpAnyL.any _ _ _ _ h)
end
theorem wpAnyH_takeD {P:Program} {ops:Array Oper} {Q:Exit→Act→World→Prop} {md:Region.Mode} {S:World→Prop} {i:Nat} {oi:Oper} {d:Option Tmp} {v:Value} {fuel:Nat} {listed:Array Bool} {a:Act} {w:World} (hi:ops[i]?=some oi)
 (hs:Region.noSelect ops=true) (hf:Region.free md ops listed i=true) (hr:(Region.ready md ops listed).contains i=true) (hd:oi.dst=d)
 (hQ:∀ c a w,Q (.panic c) (a.put oi.dst v) w→Q (.panic c) a w) (hy:YieldsIf P ops S oi v a) (hS:S w)
 (h:wpAnyH P md ops Q S fuel (listed.setIfInBounds i true) (a.put d v) w):wpAnyH P md ops Q S (fuel+1) listed a w :=
 wpAnyH_take hi hs hf hr hQ hy hS (hd ▸ h)
end Go.Proofs.YtfcihnpmeabacaaGreatDoor
namespace Go.Proofs.YtfcihnpmeabacaaGreatDoor
open Go.RowKit
def wpAnyN (P:Program) (md:Region.Mode) (ops:Array Oper) (Q:Exit→Act→World→Prop) (S:World→Prop) (z:Nat):Nat→Array Bool→Act→World→Prop
 | 0,l,a,w=>Region.ready md ops l=[]∧Q .normal a w
 | n+1,l,a,w=>(Region.ready md ops l=[]→Q .normal a w)∧∀ i∈Region.ready md ops l,wpOp P ops Q i (fun a' w'=>((l.setIfInBounds i true).getD z true=false→S w')∧wpAnyN P md ops Q S z n (l.setIfInBounds i true) a' w') a w
section
variable {P:Program} {ops:Array Oper} {Q:Exit→Act→World→Prop} {md:Region.Mode} {S:World→Prop} {z:Nat}
theorem wpAnyN.any:∀ (n:Nat) (l:Array Bool) (a:Act) (w:World),wpAnyN P md ops Q S z n l a w→wpAny P md ops Q n l a w
 | 0,_,_,_,h=>h
 | n+1,_,_,_,h=>⟨h.1,fun i hi=>wpOp_mono (fun a' w' q=>wpAnyN.any n _ a' w' q.2) (h.2 i hi)⟩
theorem getD_set_other {l:Array Bool} {i z:Nat} (h:i≠z):(l.setIfInBounds i true).getD z true=l.getD z true:=getD_set_ne true h
theorem wpAnyN.first (T:World→Prop) {i:Nat} {o:Oper} {v:Value} (hi:ops[i]?=some o) (hiz:i≠z) (hsel:Region.noSelect ops=true) (hT:(∀ w,T w)∨((∀ w,S w→T w)∧waitsFor md ops z i=true)) (hQ:∀ c a w,Q (.panic c) (a.put o.dst v) w→Q (.panic c) a w):∀ (n:Nat) (l:Array Bool) (a:Act) (w:World),
 (∀ j p,ops[j]?=some p→j≠i→l.getD j true=false→(∀ e∈p.after,Region.binds md e=true→e.on≠i)→o.apart ops p=true)→i∈Region.ready md ops l→YieldsIf P ops T o v a→(l.getD z true=false→S w)→T w→((∀ w,T w)∨l.getD z true=false) →
 wpAnyN P md ops Q S z n (l.setIfInBounds i true) (a.put o.dst v) w→wpAnyN P md ops Q S z (n+1) l a w:=by
 intro n
 induction n with
 | zero =>
  intro l a w _ hr hy hS hTw _ H;refine ⟨fun e=>absurd (e ▸ hr) (by simp),fun j hj=>?_⟩
  by_cases e:j=i
  ·subst e; exact hy.wpOp hi hTw ⟨fun e=>hS ((getD_set_other hiz) ▸ e),H⟩
  ·exact absurd (H.1 ▸ ready_mono hj e) (by simp)
 | succ n ih =>
  intro l a w hf hr hy hS hTw hL H;refine ⟨fun e=>absurd (e ▸ hr) (by simp),fun j hj=>?_⟩
  by_cases e:j=i
  ·subst e; exact hy.wpOp hi hTw ⟨fun e=>hS ((getD_set_other hiz) ▸ e),H⟩
  ·obtain ⟨k0,p,hp,k1⟩:=mem_ready.1 hj;have k2:=(mem_ready.1 hr).1
   have k3:∀ x∈p.after,Region.binds md x=true→x.on≠i:=fun x hx hb q=>by
    have k4:=k1 x hx hb;rw [q] at k4
    rcases Nat.lt_or_ge i l.size with hl | hl
    ·simp [hl] at k2 k4; rw [k2] at k4; cases k4
    ·simp [Array.getElem?_eq_none hl] at k4
   have k5:=wpOp_putIf hp (hf j p hp e k0 k3) (fun cs b=>Region.noSelect_spec hsel i o cs b hi) (fun cs b=>Region.noSelect_spec hsel j p cs b hp) hQ hy (H.2 j (ready_mono hj e));refine wpOp_mono (fun a' w' q=>?_) k5;obtain ⟨q1,q2,q3⟩:=q
   have hS':(l.setIfInBounds j true).getD z true=false→S w':=fun h=>q2 (by
    rw [Array.setIfInBounds_comm _ _ (Ne.symm e)]
    rw [getD_set_other hiz]; exact h)
   have hf':∀ k p,ops[k]?=some p→k≠i→(l.setIfInBounds j true).getD k true=false→(∀ e∈p.after,Region.binds md e=true→e.on≠i)→o.apart ops p=true:=fun k p' hk hki hun hno=>by
    refine hf k p' hk hki ?_ hno
    by_cases hjk:j=k
    ·subst hjk; exact k0
    ·rw [getD_set_ne true hjk] at hun; exact hun
   have hL':(∀ w,T w)∨(l.setIfInBounds j true).getD z true=false:=by
    rcases hT with hT | ⟨hT,hz⟩
    ·exact Or.inl hT
    ·rcases hL with hL | hL
     ·exact Or.inl hL
     ·refine Or.inr ?_
      have hjz:j≠z:=fun q=>by
       subst q;unfold waitsFor at hz;rw [hp] at hz;obtain ⟨x,hx,hb⟩:=Array.any_eq_true'.1 hz;simp only [Bool.and_eq_true,beq_iff_eq] at hb;exact k3 x hx hb.1 hb.2
      rw [getD_set_other hjz]; exact hL
   have hTw':T w':=by
    rcases hL' with h | h
    ·exact h w'
    ·rcases hT with hT | ⟨hT,-⟩
     ·exact hT w'
     ·exact hT w' (hS' h)
   exact ⟨hS',ih _ a' w' hf' (ready_mono hr (Ne.symm e)) q1 hS' hTw' hL' (by rw [Array.setIfInBounds_comm _ _ e]; exact q3)⟩
theorem wpAnyN.take {i:Nat} {oi:Oper} {d:Option Tmp} {v:Value} {n:Nat} {l:Array Bool} {a:Act} {w:World} (hi:ops[i]?=some oi) (hiz:i≠z)
 (hs:Region.noSelect ops=true) (hf:Region.free md ops l i=true) (hr:(Region.ready md ops l).contains i=true) (hz:waitsFor md ops z i=true) (hl:l.getD z true=false) (hd:oi.dst=d)
 (hQ:∀ c a w,Q (.panic c) (a.put oi.dst v) w→Q (.panic c) a w) (hy:YieldsIf P ops S oi v a) (hS:S w)
 (h:wpAnyN P md ops Q S z n (l.setIfInBounds i true) (a.put d v) w):wpAnyN P md ops Q S z (n+1) l a w :=
 wpAnyN.first S hi hiz hs (Or.inr ⟨fun _ h=>h,hz⟩) hQ n l a w (Region.free_spec hi hf) (by simpa using hr) hy (fun _=>hS) hS (Or.inr hl) (hd ▸ h)
theorem wpAnyN.free {i:Nat} {oi:Oper} {d:Option Tmp} {v:Value} {n:Nat} {l:Array Bool} {a:Act} {w:World} (hi:ops[i]?=some oi) (hiz:i≠z)
 (hs:Region.noSelect ops=true) (hf:Region.free md ops l i=true) (hr:(Region.ready md ops l).contains i=true) (hd:oi.dst=d)
 (hQ:∀ c a w,Q (.panic c) (a.put oi.dst v) w→Q (.panic c) a w) (hy:YieldsIf P ops (fun _=>True) oi v a) (hS:l.getD z true=false→S w)
 (h:wpAnyN P md ops Q S z n (l.setIfInBounds i true) (a.put d v) w):wpAnyN P md ops Q S z (n+1) l a w :=
 wpAnyN.first (fun _=>True) hi hiz hs (Or.inl fun _=>trivial) hQ n l a w (Region.free_spec hi hf) (by simpa using hr) hy hS trivial (Or.inl fun _=>trivial) (hd ▸ h)
def AllN (P:Program) (md:Region.Mode) (ops:Array Oper) (Q:Exit→Act→World→Prop) (S:World→Prop) (z n:Nat) (l:Array Bool) (a:Act) (w:World) (rs:List Nat):Prop :=
 ∀ i∈rs,wpOp P ops Q i (fun a' w'=>((l.setIfInBounds i true).getD z true=false→S w')∧wpAnyN P md ops Q S z n (l.setIfInBounds i true) a' w') a w
theorem AllN.nil {n:Nat} {l:Array Bool} {a:Act} {w:World}:AllN P md ops Q S z n l a w []:=fun _ h=>by cases h
theorem AllN.cons {n:Nat} {l:Array Bool} {a:Act} {w:World} {i:Nat} {o:Oper} {rs:List Nat} (ho:ops[i]?=some o)
 (h:∀ K:Act→World→Prop,Shut (∀ a w,((l.setIfInBounds i true).getD z true=false→S w)→wpAnyN P md ops Q S z n (l.setIfInBounds i true) a w→K a w)→if Region.wanted o (yielded ops a.tmps)=true then Oper.wp P o a w K Q else K (a.put o.dst undef) w)
 (hs:AllN P md ops Q S z n l a w rs):AllN P md ops Q S z n l a w (i::rs):=fun j hj=>by
 rcases List.mem_cons.1 hj with rfl | hj
 ·exact wpOp_step ho fun K hK=>h K fun a w hS hW=>hK a w ⟨hS,hW⟩
 ·exact hs j hj
theorem wpAnyN.ready {rs:List Nat} {n:Nat} {l:Array Bool} {a:Act} {w:World} (hr:Region.ready md ops l=rs) (hne:rs≠[]) (h:AllN P md ops Q S z n l a w rs):wpAnyN P md ops Q S z (n+1) l a w :=
 ⟨fun e=>absurd (hr ▸ e) hne,hr ▸ h⟩
theorem wpAnyN.done {l:Array Bool} {a:Act} {w:World} (hr:Region.ready md ops l=[]) (h:Q .normal a w):∀ n,wpAnyN P md ops Q S z n l a w
 | 0=>⟨hr,h⟩
 | _+1=>⟨fun _=>h,by rw [hr]; simp⟩
theorem wp_region_N {id:Nat} {a:Act} {w:World} (z:Nat) (S:World→Prop) (hm:P.follows .mixedOrders=true) (h:wpAnyN P .any ops Q S z ops.size (Array.replicate ops.size false) a w.drew):(Code.region id ops true).wp P Q a w :=
 wp_region_any hm (wpAnyN.any _ _ _ _ h)
end
end Go.Proofs.YtfcihnpmeabacaaGreatDoor
namespace Go.Proofs.YtfcihnpmeabacaaGreatDoor
open Go.RowKit
section
variable {P:Program} {ops:Array Oper} {Q:Exit→Act→World→Prop} {md:Region.Mode} {S:World→Prop} {z:Nat} {oi:Oper} {v:Value} {n:Nat} {l l':Array Bool} {a a':Act} {w:World}
theorem tkH (i:Nat) (d:Tmp) (h:wpAnyH P md ops Q S n l' a' w) (hi:ops[i]?=some oi:=by rfl) (hs:Region.noSelect ops=true:=by kernel_rfl) (hf:Region.free md ops l i=true:=by kernel_rfl) (hr:(Region.ready md ops l).contains i=true:=by kernel_rfl) (hd:oi.dst=some d:=by rfl)
 (hQ:∀ c a w,Q (.panic c) (a.put oi.dst v) w→Q (.panic c) a w:=by exact fun _ _ _ h=>h) (hy:YieldsIf P ops S oi v a:=by exact Or.inl ⟨by rfl,by intro w hSw; (try dsimp only at hSw); go_simp; try with_reducible rfl⟩) (hS:S w:=by assumption)
 (hl:l.setIfInBounds i true=l':=by first | (simp only [List.setIfInBounds_toArray,List.set_cons_zero,List.set_cons_succ]; rfl) | rfl) (ha:a.put (some d) v=a':=by (simp only [Act.put,List.setIfInBounds_toArray,List.set_cons_zero,List.set_cons_succ]; rfl)):wpAnyH P md ops Q S (n+1) l a w:=by
 subst hl ha;exact wpAnyH_takeD hi hs hf hr hd hQ hy hS h
theorem skH (i:Nat) (d:Tmp) (h:wpAnyH P md ops Q S n l' a' w) (hi:ops[i]?=some oi:=by rfl) (hs:Region.noSelect ops=true:=by kernel_rfl) (hf:Region.free md ops l i=true:=by kernel_rfl) (hr:(Region.ready md ops l).contains i=true:=by kernel_rfl) (hd:oi.dst=some d:=by rfl)
 (hQ:∀ c a w,Q (.panic c) (a.put oi.dst undef) w→Q (.panic c) a w:=by exact fun _ _ _ h=>h) (hy:YieldsIf P ops S oi undef a:=by exact Or.inr ⟨by rfl,rfl⟩) (hS:S w:=by assumption)
 (hl:l.setIfInBounds i true=l':=by first | (simp only [List.setIfInBounds_toArray,List.set_cons_zero,List.set_cons_succ]; rfl) | rfl) (ha:a.put (some d) undef=a':=by (simp only [Act.put,List.setIfInBounds_toArray,List.set_cons_zero,List.set_cons_succ]; rfl)):wpAnyH P md ops Q S (n+1) l a w:=by
 subst hl ha;exact wpAnyH_takeD hi hs hf hr hd hQ hy hS h
theorem tkL (i:Nat) (d:Tmp) (h:wpAnyL P md ops Q S z n l' a' w) (hi:ops[i]?=some oi:=by rfl) (hs:Region.noSelect ops=true:=by kernel_rfl) (hf:Region.free md ops l i=true:=by kernel_rfl) (hr:(Region.ready md ops l).contains i=true:=by kernel_rfl) (hz:waitsFor md ops z i=true:=by kernel_rfl) (hd:oi.dst=some d:=by rfl)
 (hQ:∀ c a w,Q (.panic c) (a.put oi.dst v) w→Q (.panic c) a w:=by exact fun _ _ _ h=>h) (hy:YieldsIf P ops S oi v a:=by exact Or.inl ⟨by rfl,by intro w hSw; (try dsimp only at hSw); go_simp; try with_reducible rfl⟩) (hS:S w:=by assumption)
 (hl:l.setIfInBounds i true=l':=by first | (simp only [List.setIfInBounds_toArray,List.set_cons_zero,List.set_cons_succ]; rfl) | rfl) (ha:a.put (some d) v=a':=by (simp only [Act.put,List.setIfInBounds_toArray,List.set_cons_zero,List.set_cons_succ]; rfl)):wpAnyL P md ops Q S z (n+1) l a w:=by
 subst hl ha;exact wpAnyL.take hi hs hf hr hz hd hQ hy hS h
theorem tkN (i:Nat) (d:Tmp) (h:wpAnyN P md ops Q S z n l' a' w) (hi:ops[i]?=some oi:=by rfl) (hiz:i≠z:=by decide) (hs:Region.noSelect ops=true:=by kernel_rfl) (hf:Region.free md ops l i=true:=by kernel_rfl) (hr:(Region.ready md ops l).contains i=true:=by kernel_rfl) (hz:waitsFor md ops z i=true:=by kernel_rfl) (hg:l.getD z true=false:=by kernel_rfl) (hd:oi.dst=some d:=by rfl)
 (hQ:∀ c a w,Q (.panic c) (a.put oi.dst v) w→Q (.panic c) a w:=by exact fun _ _ _ h=>h) (hy:YieldsIf P ops S oi v a:=by exact Or.inl ⟨by rfl,by intro w hSw; (try dsimp only at hSw); go_simp; try with_reducible rfl⟩) (hS:S w:=by assumption)
 (hl:l.setIfInBounds i true=l':=by first | (simp only [List.setIfInBounds_toArray,List.set_cons_zero,List.set_cons_succ]; rfl) | rfl) (ha:a.put (some d) v=a':=by (simp only [Act.put,List.setIfInBounds_toArray,List.set_cons_zero,List.set_cons_succ]; rfl)):wpAnyN P md ops Q S z (n+1) l a w:=by
 subst hl ha;exact wpAnyN.take hi hiz hs hf hr hz hg hd hQ hy hS h
theorem frN (i:Nat) (d:Tmp) (h:wpAnyN P md ops Q S z n l' a' w) (hi:ops[i]?=some oi:=by rfl) (hiz:i≠z:=by decide) (hs:Region.noSelect ops=true:=by kernel_rfl) (hf:Region.free md ops l i=true:=by kernel_rfl) (hr:(Region.ready md ops l).contains i=true:=by kernel_rfl) (hd:oi.dst=some d:=by rfl)
 (hQ:∀ c a w,Q (.panic c) (a.put oi.dst v) w→Q (.panic c) a w:=by exact fun _ _ _ h=>h) (hy:YieldsIf P ops (fun _=>True) oi v a:=by exact Or.inl ⟨by rfl,by intro w hSw; go_simp; try with_reducible rfl⟩) (hS:l.getD z true=false→S w:=by exact fun _=>by assumption)
 (hl:l.setIfInBounds i true=l':=by first | (simp only [List.setIfInBounds_toArray,List.set_cons_zero,List.set_cons_succ]; rfl) | rfl) (ha:a.put (some d) v=a':=by (simp only [Act.put,List.setIfInBounds_toArray,List.set_cons_zero,List.set_cons_succ]; rfl)):wpAnyN P md ops Q S z (n+1) l a w:=by
 subst hl ha;exact wpAnyN.free hi hiz hs hf hr hd hQ hy hS h
end
end Go.Proofs.YtfcihnpmeabacaaGreatDoor
namespace Go.Proofs.YtfcihnpmeabacaaGreatDoor
open Go.RowKit
theorem int_info:(Tryz.prog.info? 3).map (fun i=>(i.zero,i.size,i.bytes))=some (some (.int .i64 0),1,8):=by kernel_rfl
def OwnI (w:World) (base:Nat) (v:Value) (n:Nat) (xs:List Int):Prop:=w.ownsRow base 3 1 v n (xs.map (Value.int .i64))
section
variable {w w':World} {base n c:Nat} {v:Value} {A:Option Addr} {xs ys:List Int}
theorem OwnI.lt (h:OwnI w base v n xs):∀ k,v.ownBlock=some k→base≤k∧k < w.heap.size:=World.ownsRow.lt h
theorem OwnI.form (h:OwnI w base v n xs):∃ A c,v=.slice A n c∧Ints w A n c xs:=by
 have hl:=h.1;simp only [List.length_map,Nat.mul_one] at hl
 rcases h.2 with ⟨rfl,rfl⟩ | ⟨g,cap,cur,rfl,hb,hh,hc1,hc2,hc3,htk⟩
 ·have:xs=[]:=List.eq_nil_of_length_eq_zero hl;subst this;exact ⟨none,0,rfl,Ints.nil w⟩
 ·refine ⟨_,_,rfl,hl,hc1,fun _=>⟨g,0,rfl,fun i hi=>?_⟩⟩;rw [Nat.zero_add,cell_of_row w g i cur _ (0,0) hh]
  have e1:(xs.map (Value.int .i64))[i]?=some (.int .i64 (xs.getD i 0)):=by
   simp [List.getD_eq_getElem?_getD,List.getElem?_eq_getElem (show i < xs.length by omega)]
  rw [← htk,List.getElem?_take,if_pos (by omega)] at e1
  simpa using e1
theorem OwnI.toInts {n' c':Nat} (h:OwnI w base (.slice A n' c') n xs):Ints w A n c' xs:=by
 obtain ⟨A1,c1,e,hI⟩:=h.form;cases e
 exact hI
theorem OwnI.block {n' c':Nat} (h:OwnI w base (.slice A n' c') n xs):∀ ad,A=some ad→base≤ad.block∧ad.block < w.heap.size:=fun ad e=>h.lt ad.block (by simp [Value.ownBlock,e])
theorem OwnI.keep (h:OwnI w base v n xs) {B:Nat} (hb:Below B w w') (hB:w.heap.size≤B):OwnI w' base v n xs:=by
 refine ⟨h.1,?_⟩
 rcases h.2 with h0 | ⟨g,cap,cur,rfl,h1,hh,hr⟩
 ·exact Or.inl h0
 ·refine Or.inr ⟨g,cap,cur,rfl,h1,?_,hr⟩;rw [hb.block g (Nat.lt_of_lt_of_le (Array.getElem?_eq_some_iff.1 hh).1 hB)];exact hh
theorem OwnI.nil (w:World) (base:Nat):OwnI w base (.slice none 0 0) 0 []:=World.ownsRow_nil w base _ 1
theorem Ints.cells {a:Addr} (h:Ints w (some a) n c xs):∀ j u,(xs.map (Value.int .i64))[j]?=some u→w.cell? (a.add j)=some u:=by
 intro j u hu
 have hj:j < xs.length:=by
  have:=(List.getElem?_eq_some_iff.1 hu).1
  simpa using this
 obtain ⟨b,off,e,hc⟩:=h.2.2 (by have:=h.1; omega);have:=Option.some.inj e;subst this;rw [Addr.add_lit];rw [hc j (by have:=h.1; omega),← hu];simp [List.getD_eq_getElem?_getD,hj]
end
section
variable {P:Program} (w:World)
theorem run_append_ints (base:Nat) (ty:TypeId) (v:Value) (n:Nat) (xs:List Int) (hown:OwnI w base v n xs)
 (A:Option Addr) (m c:Nat) (ys:List Int) (hr:Ints w A m c ys) (hb:n+m≤17592186044416) (hbase:base≤w.heap.size) :
 ∃ v' w',(Builtin.append_ #[25,25] ty #[v,.slice A m c]).run Tryz.prog w=.ok v' w'∧OwnI w' base v' (n+m) (xs++ys)∧w.grownBy w' v.ownBlock ∧
  (v'.ownBlock=v.ownBlock∨v'.ownBlock=some w.heap.size):=by
 obtain ⟨i,hi,hz,hs,hby⟩:=info_parts int_info;unfold OwnI;rw [List.map_append]
 rcases A with _ | ad
 ·have hm:m=0:=by
   rcases Nat.eq_zero_or_pos m with h0 | h0
   ·exact h0
   ·obtain ⟨b,off,h,_⟩:=hr.2.2 h0;cases h
  subst hm;have hn:ys=[]:=List.eq_nil_of_length_eq_zero hr.1;subst hn;refine ⟨v,w,?_,by rw [List.map_nil,List.append_nil]; exact hown,World.grownBy.refl w _,Or.inl rfl⟩
  rcases hown.2 with ⟨rfl,rfl⟩ | ⟨g,cap,cur,rfl,_,_,hnc,_⟩
  ·simp [Builtin.append_,run_underlying Tryz.underlying25,sizeOf,typeInfo,hi,Builtin.lenOf,Builtin.firstCells]
  ·simp [Builtin.append_,run_underlying Tryz.underlying25,sizeOf,typeInfo,hi,Builtin.lenOf,Builtin.firstCells,hnc,storeCells]
 ·obtain ⟨v',w',hrun,h2,h3,_,h5⟩:=run_append_own_at (P:=Tryz.prog) w base 25 ty 3 i _ 1 8 Tryz.underlying25 hi hz hs hby rfl (by omega) v n _ hown ad m c (ys.map (Value.int .i64)) (by simp [hr.1]) hr.cells (ints_oneCell _ _) (by simp only [maxLen]; omega) (by omega) hbase;exact ⟨v',w',hrun,h2,h3,h5⟩
theorem wp_append_ints {o:Oper} {a:Act} {K:Act→World→Prop} {Q:Exit→Act→World→Prop} (s x:Operand)
 (ho:o.op=.call { callee:=.builtin .append,args:=#[s,x],argTypes:=#[25,25] })
 (base:Nat) (v:Value) (n:Nat) (xs:List Int) (hs:a.eval s=v) (hown:OwnI w base v n xs)
 (A:Option Addr) (m c:Nat) (ys:List Int) (hx:a.eval x=.slice A m c) (hr:Ints w A m c ys) (hb:n+m≤17592186044416) (hbase:base≤w.heap.size)
 (h:∀ A' c' w',OwnI w' base (.slice A' (n+m) c') (n+m) (xs++ys)→w.grownBy w' v.ownBlock→((Value.slice A' (n+m) c').ownBlock=v.ownBlock∨(Value.slice A' (n+m) c').ownBlock=some w.heap.size)→K (a.put o.dst (.slice A' (n+m) c')) w'):o.wp Tryz.prog a w K Q:=by
 obtain ⟨v',w',hrun,h2,h3,h4⟩:=run_append_ints w base o.type v n xs hown A m c ys hr hb hbase;unfold Oper.wp execOp;simp only [ho,resolve,invoke,builtin,Sem.run_bind,Sem.run_pure,Result.andThen_ok,List.map_toArray,List.map_cons,List.map_nil,hs,hx,hrun];obtain ⟨A',c',rfl,_⟩:=h2.form;exact h A' c' w' h2 h3 h4
theorem wpList_append_ints {ops:Array Oper} {rest:List Oper} {o:Oper} {a:Act} {Q:Exit→Act→World→Prop} (hgd:o.guard=none) (s x:Operand)
 (ho:o.op=.call { callee:=.builtin .append,args:=#[s,x],argTypes:=#[25,25] })
 (base:Nat) (v:Value) (n:Nat) (xs:List Int) (hs:a.eval s=v) (hown:OwnI w base v n xs)
 (A:Option Addr) (m c:Nat) (ys:List Int) (hx:a.eval x=.slice A m c) (hr:Ints w A m c ys) (hb:n+m≤17592186044416) (hbase:base≤w.heap.size)
 (h:∀ A' c' w',OwnI w' base (.slice A' (n+m) c') (n+m) (xs++ys)→w.grownBy w' v.ownBlock→((Value.slice A' (n+m) c').ownBlock=v.ownBlock∨(Value.slice A' (n+m) c').ownBlock=some w.heap.size)→wpList Tryz.prog ops Q rest (a.put o.dst (.slice A' (n+m) c')) w'):wpList Tryz.prog ops Q (o::rest) a w :=
 wpList_plain hgd fun _ hK=>wp_append_ints w s x ho base v n xs hs hown A m c ys hx hr hb hbase fun A' c' w' h2 h3 h4=>hK _ _ (h A' c' w' h2 h3 h4)
end
theorem OwnI.alloc {w:World} {base n:Nat} {v:Value} {xs:List Int} (h:OwnI w base v n xs) (o:Obj):OwnI (w.alloc o) base v n xs:=World.ownsRow.alloc h o
theorem Ints.alloc {w:World} {A:Option Addr} {n c:Nat} {xs:List Int} (h:Ints w A n c xs) (o:Obj):Ints (w.alloc o) A n c xs :=
 h.keep ((Below.refl w.heap.size w).alloc (Nat.le_refl _) o) (Nat.le_refl _)
theorem Ints.one (w:World) (y:Int) (t:TypeId):Ints (w.alloc (.cells #[.int .i64 y] t)) (some ⟨w.heap.size,0,none⟩) 1 1 [y] :=
 ⟨rfl,Nat.le_refl _,fun _=>⟨w.heap.size,0,rfl,fun i hi=>by
  have:i=0:=(by omega);subst this
  rw [Nat.zero_add,World.cell?_alloc_new]; rfl⟩⟩
theorem OwnI.setCell {w:World} {base n:Nat} {v:Value} {xs:List Int} (h:OwnI w base v n xs) {p:Addr} (hp:p.block < base) (u:Value):OwnI (w.setCell p u) base v n xs:=ownsRow_setCell_below h hp u
theorem OwnI.grown {w w' w0:World} {base n B:Nat} {v:Value} {xs:List Int} (h:OwnI w base v n xs) (hb:Below B w0 w) (hg:w.grownBy w' v.ownBlock) (hB:B≤base) (hs:B≤w.heap.size):Below B w0 w' :=
 hb.grown hg hs fun k hk=>Nat.le_trans hB (h.lt k hk).1
end Go.Proofs.YtfcihnpmeabacaaGreatDoor
namespace Go.Proofs.YtfcihnpmeabacaaGreatDoor
open Go.RowKit
theorem setCell_self {w:World} {b i:Nat} {v:Value} (h:w.cell? ⟨b,i,none⟩=some v):w.setCell ⟨b,i,none⟩ v=w:=by
 unfold World.cell? at h
 split at h
 ·rename_i c e f hb
  have hc:c[i]?=some v:=(by simpa using h)
  have:w.heap.modify b (fun x=>match x with | .cells c elem frozen=>.cells (c.setIfInBounds i v) elem frozen | o=>o)=w.heap:=by
   apply Array.ext_getElem?
   intro k;rw [Array.getElem?_modify]
   split
   ·rename_i hk
    subst hk;rw [hb];simp only [Option.map_some,Option.some.injEq,Obj.cells.injEq,and_true]
    apply Array.ext_getElem?
    intro j;rw [Array.getElem?_setIfInBounds]
    split
    ·rename_i hj
     subst hj;obtain ⟨hlt,_⟩:=Array.getElem?_eq_some_iff.1 hc;rw [if_pos hlt,hc]
    ·rfl
   ·rfl
  unfold World.setCell;simp only [Option.isSome_none,Bool.false_eq_true,if_false];exact congrArg (fun hp=>({ w with heap:=hp }:World)) this
 ·cases h
def NextP1 (w0 w:World) (m0:Nat) (b:Nat) (n:Int) (e:Ending) (w':World):Prop :=
 ∃ v A m c ls,e=.returned (.int .i64 v)∧0≤v∧v < n∧m≤m0∧w'=w.setCell ⟨b,0,none⟩ (.slice A m c)∧Ints w0 A m c ls
end Go.Proofs.YtfcihnpmeabacaaGreatDoor
