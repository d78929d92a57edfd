/- Texts TL, TM, laid together. -/
import Derived.Test.YtfcihnpmeabacaaGreatDoorW1
import Derived.Test.YtfcihnpmeabacaaGreatDoorW19
import Derived.Handy
namespace Go.Proofs.YtfcihnpmeabacaaGreatDoor
open Go.RowKit
abbrev Rk:=Nat×Nat×Nat×Nat
abbrev Cand:=Nat×Nat×Rk
abbrev QE:=Cand×CT
def Rk.get (r:Rk):Nat→Nat
 | 0=>r.1
 | 1=>r.2.1
 | 2=>r.2.2.1
 | _=>r.2.2.2
def Rk.inc (r:Rk):Nat→Rk
 | 0=>(r.1+1,r.2.1,r.2.2.1,r.2.2.2)
 | 1=>(r.1,r.2.1+1,r.2.2.1,r.2.2.2)
 | 2=>(r.1,r.2.1,r.2.2.1+1,r.2.2.2)
 | _=>(r.1,r.2.1,r.2.2.1,r.2.2.2+1)
def cdCells (c:Cand) (p:Option Addr):List Value:=[.int .i64 (c.1:Int),.int .i64 (c.2.1:Int),.int .i64 (c.2.2.1:Int),.int .i64 (c.2.2.2.1:Int),.int .i64 (c.2.2.2.2.1:Int),.int .i64 (c.2.2.2.2.2:Int),.pointer p]
abbrev ptA (b:Nat):Option Addr:=some ⟨b,0,none⟩
def cdVal (c:Cand) (p:Option Addr):Value:=.agg #[.int .i64 (c.1:Int),.int .i64 (c.2.1:Int),.int .i64 (c.2.2.1:Int),.int .i64 (c.2.2.2.1:Int),.int .i64 (c.2.2.2.2.1:Int),.int .i64 (c.2.2.2.2.2:Int),.pointer p]
def QuE:Elem QE (Cand×Nat) where
 k:=7
 cells r:=cdCells r.1 (ptA r.2)
 rel ok w r x:=r.1=x.1∧PtR ok w r.2 x.2
 pos:=by omega
 len _:=rfl
 one r u hu:=by simp [cdCells] at hu; rcases hu with rfl | rfl | rfl | rfl | rfl | rfl | rfl <;> rfl
 agr h k:=⟨h.1,h.2.agr k⟩
 mono h k:=⟨h.1,h.2.mono k⟩
def WtE:Elem Cand Cand where
 k:=7
 cells r:=cdCells r none
 rel _ _ r x:=r=x
 pos:=by omega
 len _:=rfl
 one r u hu:=by simp [cdCells] at hu; rcases hu with rfl | rfl | rfl | rfl | rfl | rfl | rfl <;> rfl
 agr h _:=h
 mono h _:=h
noncomputable def lessQ (q:List QE) (i j:Nat):Bool:=match q[i]?,q[j]? with
 | some a,some b=>decide (cmpT a.2 b.2 < 0)
 | _,_=>false
def swapQ (q:List QE) (i j:Nat):List QE:=match q[i]?,q[j]? with
 | some a,some b=>(q.set i b).set j a
 | _,_=>q
theorem swapQ_len (q:List QE) (i j:Nat):(swapQ q i j).length=q.length:=by
 unfold swapQ; split <;> simp
theorem swapQ_mem {q:List QE} {i j:Nat}:∀ x∈swapQ q i j,x∈q:=by
 intro x hx;unfold swapQ at hx
 split at hx
 ·next a b ha hb =>
  rcases List.mem_or_eq_of_mem_set hx with hx | rfl
  ·rcases List.mem_or_eq_of_mem_set hx with hx | rfl
   ·exact hx
   ·exact List.mem_of_getElem? hb
  ·exact List.mem_of_getElem? ha
 ·exact hx
def QOk (q:List QE):Prop:=∀ x∈q,x.2.Wf∧x.2.size≤100000
set_option maxRecDepth 100000 in
set_option maxHeartbeats 4000000 in
theorem less_c (ok:Nat→Prop) (A:Option Addr) (n c i j:Nat) (q:List QE) (w:World) (h:Sl QuE ok w A n c q) (hq:QOk q) (hi:i < n) (hj:j < n) :
 Calls Tryz.prog 196 #[.slice A n c,.int .i64 (i:Int),.int .i64 (j:Int)] w (fun e w'=>e=.returned (.bool (lessQ q i j))∧Below w.heap.size w w'):=by
 obtain ⟨b1,o1,⟨c1,p1⟩,x1,rfl,-,-,hx1,⟨hr1,ht1⟩,hc1⟩:=h.at_ hi;obtain ⟨b2,o2,⟨c2,p2⟩,x2,e,-,-,hx2,⟨hr2,ht2⟩,hc2⟩:=h.at_ hj;cases e
 have d1:=hc1 6 _ rfl;have d2:=hc2 6 _ rfl;simp only [QuE] at d1 d2;have i0:(0:Int)≤(i:Int):=(by omega);have i1:(i:Int) < (n:Int):=(by omega);have j0:(0:Int)≤(j:Int):=(by omega);have j1:(j:Int) < (n:Int):=(by omega);have hl:lessQ q i j=decide (cmpT x1.2 x2.2 < 0):=(by unfold lessQ; rw [hx1,hx2]);rw [hl];have HC:=Lib.hid (compare_c ok p1 p2 x1.2 x2.2 w.drew (PtR.via ht1 (Below.refl w.heap.size w).drew) (PtR.via ht2 (Below.refl w.heap.size w).drew) (hq x1 (List.mem_of_getElem? hx1)).1 (hq x2 (List.mem_of_getElem? hx2)).1 (hq x1 (List.mem_of_getElem? hx1)).2 (hq x2 (List.mem_of_getElem? hx2)).2);have HDW:=Lib.hid (Below.refl w.heap.size w).drew;clear hc1 hc2 hr1 hr2 ht1 ht2 hx1 hx2 h hq hl;go_enter Tryz.func196,Tryz.ntmps196;go_upto_region 1 with fail
 go_still_tail 10,(by kernel_rfl)
 change wpList _ _ _ _ _ w.drew
 generalize w.drew=w2 at *;go_wp2_with fail;refine HC.out.mono ?_;rintro e w3 ⟨rfl,hb3⟩;go_wp2_with fail;go_ret;exact ⟨rfl,HDW.out.via hb3⟩
theorem Own.putAll {α ρ:Type} {E:Elem α ρ} {e:TypeId} {ok:Nat→Prop} {w w':World} {base n c g q:Nat} {l:List α} (h:Own E e ok w base (.slice (some ⟨g,0,none⟩) n c) n l) (hq:q < n) {cur':Array Value} (hB':Blk w' g e cur') (hsz:∀ cur,Blk w g e cur→cur'.size=cur.size) (r':ρ) (x':α)
 (hnew:∀ j u,(E.cells r')[j]?=some u→w'.cell? ⟨g,q*E.k+j,none⟩=some u) (hsame:∀ i,(i < q*E.k∨q*E.k+E.k≤i)→w'.cell? ⟨g,i,none⟩=w.cell? ⟨g,i,none⟩) (hag:Agr (fun b=>ok b∧b≠g) w w') (hrel:E.rel (fun b=>ok b∧b≠g) w' r' x'):Own E e ok w' base (.slice (some ⟨g,0,none⟩) n c) n (l.set q x'):=by
 obtain ⟨h1,raw,h2,h3,h4⟩:=h;have hob:∀ b,some b≠(Value.slice (some ⟨g,0,none⟩) n c).ownBlock↔b≠g:=fun b=>⟨fun hb e=>hb (by rw [e]; rfl),fun hb e=>hb (Option.some.inj e)⟩
 rcases h3.2 with ⟨h0,_⟩ | ⟨g',cap,cur,hv,hb,hh,hc1,hc2,hc3,htk⟩
 ·cases h0
 ·cases hv
  have hB:Blk w g e cur:=hh;have hs:=hsz cur hB;have hk:=E.pos;have hlen:(flat E raw).length=n*E.k:=(by rw [flat_len,h2]);have hlen':(flat E (raw.set q r')).length=n*E.k:=(by rw [flat_len,List.length_set,h2])
  have hqk:q*E.k+E.k≤n*E.k:=by
   have:=Nat.mul_le_mul_right E.k hq;rw [Nat.succ_mul] at this; exact this
  have hfl:∀ (R:List ρ) (i:Nat) (hi:i < R.length*E.k),(flat E R)[i]?=((R[i / E.k]?).bind fun r=>(E.cells r)[i % E.k]?):=by
   intro R
   induction R with
   | nil=>intro i hi; simp at hi
   | cons a R ih =>
    intro i hi;have e0:flat E (a::R)=E.cells a++flat E R:=(by simp [flat]);rw [e0]
    by_cases hlt:i < E.k
    ·rw [List.getElem?_append_left (by rw [E.len]; exact hlt),Nat.div_eq_of_lt hlt,Nat.mod_eq_of_lt hlt]; rfl
    ·rw [List.getElem?_append_right (by rw [E.len]; omega),E.len];have hi2:i - E.k < R.length*E.k:=(by rw [List.length_cons,Nat.succ_mul] at hi; omega);rw [ih _ hi2]
     have hd:i / E.k=(i - E.k) / E.k+1:=by
      conv=>lhs; rw [show i=(i - E.k)+E.k by omega]
      rw [Nat.add_div_right _ hk]
     have hm:i % E.k=(i - E.k) % E.k:=by
      conv=>lhs; rw [show i=(i - E.k)+E.k by omega]
      rw [Nat.add_mod_right]
     rw [hd,hm]; rfl
  refine ⟨by simpa using h1,raw.set q r',by simpa using h2,⟨by have:=h3.1; rw [flat_len] at this ⊢; simpa using this,Or.inr ⟨g,c,cur',rfl,hb,hB',hc1,hc2,by rw [hs]; exact hc3,?_⟩⟩,fun i r x hri hxi=>?_⟩
  ·apply List.ext_getElem?
   intro i
   by_cases hi:i < n*E.k
   ·rw [List.getElem?_take_of_lt hi,Array.getElem?_toList,hfl _ i (by rw [List.length_set,h2]; exact hi)]
    by_cases hin:i < q*E.k∨q*E.k+E.k≤i
    ·have e1:=hsame i hin;rw [hB'.cell,hB.cell] at e1
     have e2:cur[i]?=(flat E raw)[i]?:=by
      have:=congrArg (fun l:List Value=>l[i]?) htk;try dsimp only at this
      rw [List.getElem?_take_of_lt hi,Array.getElem?_toList] at this;exact this
     have hne:q≠i / E.k:=by
      intro e3;have h5:=Nat.div_add_mod i E.k;have h6:=Nat.mod_lt i hk;rw [← e3,Nat.mul_comm] at h5
      rcases hin with h7 | h7 <;> omega
     rw [e1,e2,hfl raw i (by rw [h2]; exact hi),List.getElem?_set_ne hne]
    ·have hdiv:i / E.k=q:=by
      apply Nat.div_eq_of_lt_le
      ·omega
      ·rw [Nat.succ_mul]; omega
     have hmod:i % E.k=i - q*E.k:=by
      have h5:=Nat.div_add_mod i E.k;rw [hdiv,Nat.mul_comm] at h5; omega
     rw [hdiv,hmod,List.getElem?_set_self (by omega)];have hj:i - q*E.k < (E.cells r').length:=(by rw [E.len]; omega);have:=hnew (i - q*E.k) _ (List.getElem?_eq_getElem hj);rw [show q*E.k+(i - q*E.k)=i by omega,hB'.cell] at this;rw [this];show _=(E.cells r')[i - q*E.k]?
     rw [List.getElem?_eq_getElem hj]
   ·rw [List.getElem?_eq_none (by rw [List.length_take]; omega),List.getElem?_eq_none (by omega)]
  ·by_cases hiq:q=i
   ·subst hiq;rw [List.getElem?_set_self (by omega)] at hri hxi;cases hri; cases hxi
    exact E.mono hrel fun b _ hk=>⟨hk.1,(hob b).2 hk.2⟩
   ·rw [List.getElem?_set_ne hiq] at hri hxi;exact E.agr (h4 i r x hri hxi) (hag.mono fun b hb=>⟨hb.1,(hob b).1 hb.2⟩)
def set7 (w:World) (g o:Nat) (c:Cand) (p:Option Addr):World:=((((((w.setCell ⟨g,o,none⟩ (.int .i64 (c.1:Int))).setCell ⟨g,o+1,none⟩ (.int .i64 (c.2.1:Int))).setCell ⟨g,o+2,none⟩ (.int .i64 (c.2.2.1:Int))).setCell ⟨g,o+3,none⟩ (.int .i64 (c.2.2.2.1:Int))).setCell ⟨g,o+4,none⟩ (.int .i64 (c.2.2.2.2.1:Int))).setCell ⟨g,o+5,none⟩ (.int .i64 (c.2.2.2.2.2:Int))).setCell ⟨g,o+6,none⟩ (.pointer p)
theorem grownSetT (w:World) (b i:Nat) (v:Value):w.grownBy (w.setCell ⟨b,i,none⟩ v) (some b) :=
 ⟨rfl,rfl,rfl,by simp,fun j _ hne=>Below.heap_setCell w ⟨b,i,none⟩ v j (fun e=>hne (by rw [e]))⟩
theorem set7_grown (w:World) (g o:Nat) (c:Cand) (p:Option Addr):w.grownBy (set7 w g o c p) (some g) :=
 ((((((grownSetT w g o _).trans (grownSetT _ g (o+1) _)).trans (grownSetT _ g (o+2) _)).trans (grownSetT _ g (o+3) _)).trans (grownSetT _ g (o+4) _)).trans (grownSetT _ g (o+5) _)).trans (grownSetT _ g (o+6) _)
theorem set7_blk {w:World} {g o:Nat} {t:TypeId} {cur:Array Value} (c:Cand) (p:Option Addr) (h:Blk w g t cur):∃ cur',Blk (set7 w g o c p) g t cur'∧cur'.size=cur.size∧(o+7≤cur.size→∀ j u,(cdCells c p)[j]?=some u→cur'[o+j]?=some u)∧∀ i,(i < o∨o+7≤i)→cur'[i]?=cur[i]?:=by
 refine ⟨_,((((((h.set_ o _).set_ (o+1) _).set_ (o+2) _).set_ (o+3) _).set_ (o+4) _).set_ (o+5) _).set_ (o+6) _,by simp,fun hs j u hu=>?_,fun i hi=>?_⟩
 ·have h0:o < cur.size:=(by omega);have h1:o+1 < cur.size:=(by omega);have h2:o+2 < cur.size:=(by omega);have h3:o+3 < cur.size:=(by omega);have h4:o+4 < cur.size:=(by omega);have h5:o+5 < cur.size:=(by omega);have h6:o+6 < cur.size:=(by omega)
  match j,hu with
  | 0,hu=>cases hu; simp [h0]
  | 1,hu=>cases hu; simp [h1]
  | 2,hu=>cases hu; simp [h2]
  | 3,hu=>cases hu; simp [h3]
  | 4,hu=>cases hu; simp [h4]
  | 5,hu=>cases hu; simp [h5]
  | 6,hu=>cases hu; simp [h6]
  | j+7,hu=>simp [cdCells] at hu
 ·rw [Array.getElem?_setIfInBounds_ne (by omega),Array.getElem?_setIfInBounds_ne (by omega),Array.getElem?_setIfInBounds_ne (by omega),Array.getElem?_setIfInBounds_ne (by omega),Array.getElem?_setIfInBounds_ne (by omega),Array.getElem?_setIfInBounds_ne (by omega),Array.getElem?_setIfInBounds_ne (by omega)]
theorem Own.blk7 {e:TypeId} {ok:Nat→Prop} {w:World} {base n c g:Nat} {l:List QE} (h:Own QuE e ok w base (.slice (some ⟨g,0,none⟩) n c) n l):∃ cur,Blk w g e cur∧n*7≤cur.size:=by
 obtain ⟨-,raw,h2,h3,-⟩:=h
 rcases h3.2 with ⟨h0,_⟩ | ⟨g',cap,cur,hv,hb,hh,hc1,hc2,hc3,htk⟩
 ·cases h0
 ·cases hv
  refine ⟨cur,hh,?_⟩;have:=congrArg List.length htk;rw [List.length_take,flat_len,h2] at this;have hk:QuE.k=7:=rfl;rw [hk] at this;simp only [Array.length_toList] at this;omega
theorem Own.put7 {e:TypeId} {ok:Nat→Prop} {w:World} {base n c g q:Nat} {l:List QE} (h:Own QuE e ok w base (.slice (some ⟨g,0,none⟩) n c) n l) (hq:q < n) (x:QE) (b:Nat) (hx:PtR (fun b=>ok b∧b≠g) w b x.2) :
 Own QuE e ok (set7 w g (q*7) x.1 (ptA b)) base (.slice (some ⟨g,0,none⟩) n c) n (l.set q x):=by
 obtain ⟨cur,hB,hcs⟩:=h.blk7;obtain ⟨cur',hB',hs',hn',ho'⟩:=set7_blk (o:=q*7) x.1 (ptA b) hB;have hag:Agr (fun b=>ok b∧b≠g) w (set7 w g (q*7) x.1 (ptA b)):=Agr.grown (set7_grown w g (q*7) x.1 (ptA b)) fun b hb e=>hb.2 (Option.some.inj e)
 refine Own.putAll h hq hB' (fun cur2 h2=>?_) (x.1,b) x (fun j u hu=>?_) (fun i hi=>?_) hag ⟨rfl,PtR.agr hx hag⟩
 ·have e:cur2=cur:=by
   have h3:some (Obj.cells cur2 e (0,0))=some (Obj.cells cur e (0,0)):=Eq.trans (Eq.symm h2) hB;exact (Obj.cells.inj (Option.some.inj h3)).1
  rw [e]; exact hs'
 ·rw [hB'.cell]; exact hn' (by omega) j u hu
 ·rw [hB'.cell,hB.cell]; exact ho' i hi
theorem grownOfT {w w':World} (h:Below w.heap.size w w') (row:Option Nat):w.grownBy w' row:=⟨h.os,h.tape,h.output,h.size,fun j hj _=>h.block j hj⟩
theorem Own.elt {α ρ:Type} {E:Elem α ρ} {e:TypeId} {ok:Nat→Prop} {w:World} {base n c g q:Nat} {l:List α} (h:Own E e ok w base (.slice (some ⟨g,0,none⟩) n c) n l) (hq:q < n) :
 ∃ r x,l[q]?=some x∧E.rel (fun b=>ok b∧b≠g) w r x∧(∀ j u,(E.cells r)[j]?=some u→w.cell? ⟨g,q*E.k+j,none⟩=some u)∧base≤g∧g < w.heap.size∧(∀ i,w.frozen? ⟨g,i,none⟩=false):=by
 obtain ⟨h1,raw,h2,h3,h4⟩:=h;have hob:∀ b,some b≠(Value.slice (some ⟨g,0,none⟩) n c).ownBlock↔b≠g:=fun b=>⟨fun hb e=>hb (by rw [e]; rfl),fun hb e=>hb (Option.some.inj e)⟩
 rcases h3.2 with ⟨h0,_⟩ | ⟨g',cap,cur,hv,hb,hh,hc1,hc2,hc3,htk⟩
 ·cases h0
 ·cases hv
  have hr:raw[q]?=some raw[q]:=List.getElem?_eq_getElem (by omega);have hx:l[q]?=some l[q]:=List.getElem?_eq_getElem (by omega);have hB:Blk w g e cur:=hh;refine ⟨raw[q],l[q],hx,E.mono (h4 q _ _ hr hx) fun b _ hk=>⟨hk.1,(hob b).1 hk.2⟩,fun j u hu=>?_,hb,hB.lt,fun i=>hB.frozen i⟩;have:=h3.cells (g:=g) rfl (q*E.k+j) u (flat_at (E:=E) raw q _ j u hr hu)
  rwa [Addr.add_lit,Nat.zero_add] at this
set_option maxRecDepth 100000 in
set_option maxHeartbeats 4000000 in
theorem swap_c (e:TypeId) (ok:Nat→Prop) (base g n c i j:Nat) (q:List QE) (w:World) (h:Own QuE e ok w base (.slice (some ⟨g,0,none⟩) n c) n q) (hi:i < n) (hj:j < n) :
 Calls Tryz.prog 197 #[.slice (some ⟨g,0,none⟩) n c,.int .i64 (i:Int),.int .i64 (j:Int)] w (fun ee w'=>ee=.returned (.tuple #[])∧Own QuE e ok w' base (.slice (some ⟨g,0,none⟩) n c) n (swapQ q i j)∧w.grownBy w' (some g)):=by
 obtain ⟨r1,x1,hx1,⟨hr1,ht1⟩,hc1,hbg,hgl,hfz⟩:=h.elt hi;obtain ⟨r2,x2,hx2,⟨hr2,ht2⟩,hc2,-,-,-⟩:=h.elt hj;obtain ⟨⟨na,pa,ra,rb,rc,rd⟩,ta⟩:=r1;obtain ⟨⟨nb,pb,sa,sb,sc,sd⟩,tb⟩:=r2;have hsw:swapQ q i j=(q.set i x2).set j x1:=(by unfold swapQ; rw [hx1,hx2]);have hdr:=(Below.refl w.heap.size w).drew;have HO:=Lib.hid (((h.via hdr).put7 hi x2 tb (PtR.via ht2 hdr)).put7 hj x1 ta (PtR.agr (PtR.via ht1 hdr) (Agr.grown (set7_grown _ g (i*7) x2.1 (ptA tb)) fun b hb e=>hb.2 (Option.some.inj e))));rw [← hsw] at HO;have HG:=Lib.hid (((grownOfT hdr (some g)).trans (set7_grown w.drew g (i*7) x2.1 (ptA tb))).trans (set7_grown _ g (j*7) x1.1 (ptA ta)));obtain ⟨cur,hB,hcs⟩:=(h.via hdr).blk7;obtain ⟨cu1,hB1,hs1,-,-⟩:=set7_blk (o:=i*7) x2.1 (ptA tb) hB;have HB1:=Lib.hid hB1;have HCZ:=Lib.hid (show n*7≤cu1.size from by rw [hs1]; exact hcs);rw [← hr1,← hr2] at HO HG;rw [← hr2] at HB1;unfold set7 at HO HG HB1;dsimp only at HO HG HB1;have d0:=hc1 0 _ rfl;have d1:=hc1 1 _ rfl;have d2:=hc1 2 _ rfl;have d3:=hc1 3 _ rfl;have d4:=hc1 4 _ rfl;have d5:=hc1 5 _ rfl;have d6:=hc1 6 _ rfl;have f0:=hc2 0 _ rfl;have f1:=hc2 1 _ rfl;have f2:=hc2 2 _ rfl;have f3:=hc2 3 _ rfl;have f4:=hc2 4 _ rfl;have f5:=hc2 5 _ rfl;have f6:=hc2 6 _ rfl;simp only [QuE,Nat.add_zero] at d0 d1 d2 d3 d4 d5 d6 f0 f1 f2 f3 f4 f5 f6;have i0:(0:Int)≤(i:Int):=(by omega);have i1:(i:Int) < (n:Int):=(by omega);have j0:(0:Int)≤(j:Int):=(by omega);have j1:(j:Int) < (n:Int):=(by omega);clear hc1 hc2 hr1 hr2 ht1 ht2 hx1 hx2 h hsw hdr hB hB1 hs1 hcs;go_enter Tryz.func197,Tryz.ntmps197;go_upto_region 0 with fail;have HFZ:=Lib.hid (show ∀ i,w.drew.frozen? ⟨g,i,none⟩=false from hfz);have hHeld:w.drew.cell? ⟨g,i*7,none⟩=some (.int .i64 (na:Int))∧w.drew.cell? ⟨g,i*7+1,none⟩=some (.int .i64 (pa:Int))∧w.drew.cell? ⟨g,i*7+2,none⟩=some (.int .i64 (ra:Int))∧w.drew.cell? ⟨g,i*7+3,none⟩=some (.int .i64 (rb:Int))∧w.drew.cell? ⟨g,i*7+4,none⟩=some (.int .i64 (rc:Int))∧w.drew.cell? ⟨g,i*7+5,none⟩=some (.int .i64 (rd:Int))∧w.drew.cell? ⟨g,i*7+6,none⟩=some (.pointer (some ⟨ta,0,none⟩))∧w.drew.cell? ⟨g,j*7,none⟩=some (.int .i64 (nb:Int))∧w.drew.cell? ⟨g,j*7+1,none⟩=some (.int .i64 (pb:Int))∧w.drew.cell? ⟨g,j*7+2,none⟩=some (.int .i64 (sa:Int))∧w.drew.cell? ⟨g,j*7+3,none⟩=some (.int .i64 (sb:Int))∧w.drew.cell? ⟨g,j*7+4,none⟩=some (.int .i64 (sc:Int))∧w.drew.cell? ⟨g,j*7+5,none⟩=some (.int .i64 (sd:Int))∧w.drew.cell? ⟨g,j*7+6,none⟩=some (.pointer (some ⟨tb,0,none⟩)):=⟨d0,d1,d2,d3,d4,d5,d6,f0,f1,f2,f3,f4,f5,f6⟩;clear d0 d1 d2 d3 d4 d5 d6 f0 f1 f2 f3 f4 f5 f6 hfz;refine wp_region_noPanic ?_;refine wp_region_N 13 (fun w'=>w'.cell? ⟨g,i*7,none⟩=some (.int .i64 (na:Int))∧w'.cell? ⟨g,i*7+1,none⟩=some (.int .i64 (pa:Int))∧w'.cell? ⟨g,i*7+2,none⟩=some (.int .i64 (ra:Int))∧w'.cell? ⟨g,i*7+3,none⟩=some (.int .i64 (rb:Int))∧w'.cell? ⟨g,i*7+4,none⟩=some (.int .i64 (rc:Int))∧w'.cell? ⟨g,i*7+5,none⟩=some (.int .i64 (rd:Int))∧w'.cell? ⟨g,i*7+6,none⟩=some (.pointer (some ⟨ta,0,none⟩))∧w'.cell? ⟨g,j*7,none⟩=some (.int .i64 (nb:Int))∧w'.cell? ⟨g,j*7+1,none⟩=some (.int .i64 (pb:Int))∧w'.cell? ⟨g,j*7+2,none⟩=some (.int .i64 (sa:Int))∧w'.cell? ⟨g,j*7+3,none⟩=some (.int .i64 (sb:Int))∧w'.cell? ⟨g,j*7+4,none⟩=some (.int .i64 (sc:Int))∧w'.cell? ⟨g,j*7+5,none⟩=some (.int .i64 (sd:Int))∧w'.cell? ⟨g,j*7+6,none⟩=some (.pointer (some ⟨tb,0,none⟩))) (by kernel_rfl) ?_;generalize w.drew=w2 at *;refine frN 0 6 ?_;refine frN 1 7 ?_;refine frN 2 8 ?_;refine frN 3 9 ?_;refine frN 4 10 ?_;refine frN 5 11 ?_;refine frN 6 12 ?_;refine tkN 7 13 ?_;refine frN 8 14 ?_;refine frN 9 15 ?_;refine frN 10 16 ?_;refine tkN 11 17 ?_;refine frN 12 18 ?_;refine wpAnyN.ready (rs:=[13]) (by kernel_rfl) (by simp) ?_;refine AllN.cons rfl (fun K hK=>?_) AllN.nil;have fB:=HFZ.out;go_simp;refine hK.out _ _ (fun h=>absurd h (by decide)) ?_;clear hK K;try dsimp only [Act.put]
 clear fB hHeld;generalize ((((((w2.setCell ⟨g,i*7,none⟩ (.int .i64 (nb:Int))).setCell ⟨g,i*7+1,none⟩ (.int .i64 (pb:Int))).setCell ⟨g,i*7+2,none⟩ (.int .i64 (sa:Int))).setCell ⟨g,i*7+3,none⟩ (.int .i64 (sb:Int))).setCell ⟨g,i*7+4,none⟩ (.int .i64 (sc:Int))).setCell ⟨g,i*7+5,none⟩ (.int .i64 (sd:Int))).setCell ⟨g,i*7+6,none⟩ (.pointer (some ⟨tb,0,none⟩))=w3 at *;have fB:=HB1.out.frozen;have hjj:j*7+7≤cu1.size:=(by have:=HCZ.out; omega);obtain ⟨v0,g0⟩:∃ v,w3.cell? ⟨g,j*7,none⟩=some v:=⟨_,(HB1.out.cell _).trans (Array.getElem?_eq_getElem (by omega))⟩;obtain ⟨v1,g1⟩:∃ v,w3.cell? ⟨g,j*7+1,none⟩=some v:=⟨_,(HB1.out.cell _).trans (Array.getElem?_eq_getElem (by omega))⟩;obtain ⟨v2,g2⟩:∃ v,w3.cell? ⟨g,j*7+2,none⟩=some v:=⟨_,(HB1.out.cell _).trans (Array.getElem?_eq_getElem (by omega))⟩;obtain ⟨v3,g3⟩:∃ v,w3.cell? ⟨g,j*7+3,none⟩=some v:=⟨_,(HB1.out.cell _).trans (Array.getElem?_eq_getElem (by omega))⟩;obtain ⟨v4,g4⟩:∃ v,w3.cell? ⟨g,j*7+4,none⟩=some v:=⟨_,(HB1.out.cell _).trans (Array.getElem?_eq_getElem (by omega))⟩;obtain ⟨v5,g5⟩:∃ v,w3.cell? ⟨g,j*7+5,none⟩=some v:=⟨_,(HB1.out.cell _).trans (Array.getElem?_eq_getElem (by omega))⟩;obtain ⟨v6,g6⟩:∃ v,w3.cell? ⟨g,j*7+6,none⟩=some v:=⟨_,(HB1.out.cell _).trans (Array.getElem?_eq_getElem (by omega))⟩;refine wpAnyN.ready (rs:=[14]) (by kernel_rfl) (by simp) ?_;refine AllN.cons rfl (fun K hK=>?_) AllN.nil;go_simp;refine hK.out _ _ (fun h=>absurd h (by decide)) ?_;clear hK K;try simp only [Act.put,List.setIfInBounds_toArray,List.set_cons_zero,List.set_cons_succ]
 refine wpAnyN.ready (rs:=[15]) (by kernel_rfl) (by simp) ?_;refine AllN.cons rfl (fun K hK=>?_) AllN.nil;go_simp;refine hK.out _ _ (fun h=>absurd h (by decide)) ?_;clear hK K;refine wpAnyN.done (by kernel_rfl) ?_ _;refine NoPanic.normal ?_;clear fB g0 g1 g2 g3 g4 g5 g6;go_wp2_with fail;exact bodyPost_end (v:=.tuple #[]) (by simp [results,Tryz.results197,go_sem]) rfl ⟨rfl,HO.out,HG.out⟩
end Go.Proofs.YtfcihnpmeabacaaGreatDoor
namespace Go.Proofs.YtfcihnpmeabacaaGreatDoor
open Go.RowKit
theorem wrapnil (t u:TypeId) (a:Addr) (s m:String) (w:World):(Builtin.ssaWrapNilChk_ #[t] u #[.pointer (some a),strVal s,strVal m]).run Tryz.prog w=.ok (.pointer (some a)) w:=rfl
theorem meth_val {w:World} {bl g n c:Nat} (hcl:w.cell? ⟨bl,6,none⟩=some (.slice (some ⟨g,0,none⟩) n c)) (name:String) (f:FuncId) (h:(Tryz.prog.info? 148).map (fun i=>(i.methods.find? (fun m=>m.name==name)).map fun m=>(m.path,m.func))=some (some (#[],some (f,false)))) (F:Nat):(method (F+1) 148 (.pointer (some ⟨bl,6,none⟩)) name).run Tryz.prog w=.ok (f,.slice (some ⟨g,0,none⟩) n c) w:=by
 obtain ⟨i,hi,hm⟩:=Option.map_eq_some_iff.1 h;obtain ⟨m,hm1,hm2⟩:=Option.map_eq_some_iff.1 hm;simp only [Prod.mk.injEq] at hm2;have hu:Tryz.prog.underlying 148=some (.pointer 135):=(by kernel_rfl);unfold method;simp [go_sem,typeInfo,receiverAt,follow,hi,hm1,hm2.1,hm2.2,Place.get,wrapnil,hcl]
theorem meth_ptr {w:World} {bl:Nat} (name:String) (f:FuncId) (h:(Tryz.prog.info? 148).map (fun i=>(i.methods.find? (fun m=>m.name==name)).map fun m=>(m.path,m.func))=some (some (#[],some (f,true)))) (F:Nat):(method (F+1) 148 (.pointer (some ⟨bl,6,none⟩)) name).run Tryz.prog w=.ok (f,.pointer (some ⟨bl,6,none⟩)) w:=by
 obtain ⟨i,hi,hm⟩:=Option.map_eq_some_iff.1 h;obtain ⟨m,hm1,hm2⟩:=Option.map_eq_some_iff.1 hm;simp only [Prod.mk.injEq] at hm2;have hu:Tryz.prog.underlying 148=some (.pointer 135):=(by kernel_rfl);unfold method;simp [go_sem,typeInfo,receiverAt,follow,hi,hm1,hm2.1,hm2.2,Place.get]
theorem meth_less {w : World} {bl g n c : Nat} (hcl : w.cell? ⟨bl, 6, none⟩ = some (.slice (some ⟨g, 0, none⟩) n c)) (F : Nat) : (method (F + 1) 148 (.pointer (some ⟨bl, 6, none⟩)) "Less").run Tryz.prog w = .ok (196, .slice (some ⟨g, 0, none⟩) n c) w := meth_val hcl "Less" 196 (by kernel_rfl) F
theorem meth_pop {w : World} {bl : Nat}  (F : Nat) : (method (F + 1) 148 (.pointer (some ⟨bl, 6, none⟩)) "Pop").run Tryz.prog w = .ok (199, .pointer (some ⟨bl, 6, none⟩)) w := meth_ptr "Pop" 199 (by kernel_rfl) F
theorem meth_swap {w : World} {bl g n c : Nat} (hcl : w.cell? ⟨bl, 6, none⟩ = some (.slice (some ⟨g, 0, none⟩) n c)) (F : Nat) : (method (F + 1) 148 (.pointer (some ⟨bl, 6, none⟩)) "Swap").run Tryz.prog w = .ok (197, .slice (some ⟨g, 0, none⟩) n c) w := meth_val hcl "Swap" 197 (by kernel_rfl) F
theorem meth_len {w : World} {bl g n c : Nat} (hcl : w.cell? ⟨bl, 6, none⟩ = some (.slice (some ⟨g, 0, none⟩) n c)) (F : Nat) : (method (F + 1) 148 (.pointer (some ⟨bl, 6, none⟩)) "Len").run Tryz.prog w = .ok (195, .slice (some ⟨g, 0, none⟩) n c) w := meth_val hcl "Len" 195 (by kernel_rfl) F
theorem meth_push {w : World} {bl : Nat} (F : Nat) : (method (F + 1) 148 (.pointer (some ⟨bl, 6, none⟩)) "Push").run Tryz.prog w = .ok (200, .pointer (some ⟨bl, 6, none⟩)) w := meth_ptr "Push" 200 (by kernel_rfl) F
noncomputable def upQ (q:List QE) (j:Nat):List QE:=if h:j=0 then q else if lessQ q j ((j - 1) / 2)=true then upQ (swapQ q ((j - 1) / 2) j) ((j - 1) / 2) else q
termination_by j
decreasing_by omega
theorem upQ_zero (q:List QE):upQ q 0=q:=by rw [upQ]; simp
theorem upQ_step {q:List QE} {j:Nat} (h:j≠0):upQ q j=if lessQ q j ((j - 1) / 2)=true then upQ (swapQ q ((j - 1) / 2) j) ((j - 1) / 2) else q:=by
 conv=>lhs; rw [upQ]
 rw [dif_neg h]
theorem cellGrown {w w':World} {row:Option Nat} {b i:Nat} {v:Value} (h:w.grownBy w' row) (hne:some b≠row) (hc:w.cell? ⟨b,i,none⟩=some v):w'.cell? ⟨b,i,none⟩=some v :=
 (World.cell?_of_block (w:=w) (a:=⟨b,i,none⟩) (h.block b (World.block_lt_of_cell? w _ hc) hne)).trans hc
structure QuM (base bl g c:Nat) (ok:Nat→Prop) (n:Nat) (q:List QE) (w:World):Prop where
 own:Own QuE 145 ok w base (.slice (some ⟨g,0,none⟩) n c) n q
 cell:w.cell? ⟨bl,6,none⟩=some (.slice (some ⟨g,0,none⟩) n c)
 ne:bl≠g
 okq:QOk q
theorem QuM.via {base bl g c:Nat} {ok:Nat→Prop} {n:Nat} {q:List QE} {w w':World} (h:QuM base bl g c ok n q w) (hb:Below w.heap.size w w'):QuM base bl g c ok n q w' :=
 ⟨h.own.via hb,(hb.cell (p:=⟨bl,6,none⟩) (World.block_lt_of_cell? w _ h.cell)).trans h.cell,h.ne,h.okq⟩
theorem QuM.toSl {base bl g c:Nat} {ok:Nat→Prop} {n:Nat} {q:List QE} {w:World} (h:QuM base bl g c ok n q w):Sl QuE (fun _=>True) w (some ⟨g,0,none⟩) n c q:=h.own.toSl (fun _ _ _=>trivial) (fun _ _=>trivial)
def UpP (base bl g c:Nat) (ok:Nat→Prop) (n:Nat) (q:List QE) (w:World) (e:Ending) (w':World):Prop:=e=.returned (.tuple #[])∧QuM base bl g c ok n q w'∧w.grownBy w' (some g)
set_option maxRecDepth 100000 in
set_option maxHeartbeats 4000000 in
theorem up_c (base bl g c:Nat) (ok:Nat→Prop) (n:Nat) (hn:n≤17592186044416) (q:List QE) (j:Nat) (w:World) (h:QuM base bl g c ok n q w) (hj:j < n) :
 Calls Tryz.prog 166 #[.iface 148 (.pointer (some ⟨bl,6,none⟩)),.int .i64 (j:Int)] w (UpP base bl g c ok n (upQ q j) w):=by
 have H:=Lib.hid h;have HJ:=Lib.hid hj;clear h hj;go_enter Tryz.func166,Tryz.ntmps166;go_wp2_with fail
 go_loopw [1] (fun jv wr=>∃ (k:Nat) (p:List QE),jv=.int .i64 (k:Int)∧k < n∧Hid (QuM base bl g c ok n p wr)∧Hid (w.grownBy wr (some g))∧Hid (upQ p k=upQ q j)) (fun jv _=>(intOf jv).toNat)
 case atStart=>exact ⟨j,q,rfl,HJ.out,H,Lib.hid (World.grownBy.refl _ _),Lib.hid rfl⟩
 case round =>
  obtain ⟨k,p,rfl,hk,HQ,HG,HE⟩:=hrel
  rcases k with _ | k
  ·have e1:((0:Nat):Int)=0:=rfl;rw [e1];go_wp2_with fail;refine bodyPost_end (v:=.tuple #[]) (by simp [results,Tryz.results166,go_sem]) rfl ⟨rfl,?_,HG.out⟩;rw [← HE.out,upQ_zero]; exact HQ.out
  ·have hcl:=HQ.out.cell;go_upto_region 1 with fail;have hup:=upQ_step (q:=p) (j:=k+1) (by omega);rw [Nat.add_sub_cancel] at hup;obtain ⟨m,hm⟩:∃ m,m=k / 2:=⟨_,rfl⟩;have hmi:(k:Int) / 2=(m:Int):=(by omega);have hmk:m < k+1:=(by omega);rw [hmi];rw [← hm] at hup;have HUP:=Lib.hid hup;clear hm hmi hup;have e1:((m:Int)==((k+1:Nat):Int))=false:=(by simp; omega);obtain ⟨k1,hk1⟩:∃ k1,k1=k+1:=⟨_,rfl⟩;rw [← hk1] at hk HE HUP hmk e1 ⊢;have HK1:=Lib.hid hk1;clear hk1;have HL:=Lib.hid (less_c (fun _=>True) (some ⟨g,0,none⟩) n c k1 m p wr HQ.out.toSl HQ.out.okq hk (by omega));have hml:=fun F=>meth_less hcl F
   go_wp2_with fail;refine HL.out.mono ?_;clear HL hml hcl;rintro e w2 ⟨rfl,hb2⟩;have HQ2:=Lib.hid (HQ.out.via hb2);have HG2:=Lib.hid (HG.out.trans (grownOfT hb2 (some g)));clear hb2;cases hv:lessQ p k1 m with
   | false =>
    have HUF:=Lib.hid (show upQ p k1=p from by rw [HUP.out,hv]; rfl);clear hv;go_wp2_with fail;refine bodyPost_end (v:=.tuple #[]) (by simp [results,Tryz.results166,go_sem]) rfl ⟨rfl,?_,HG2.out⟩;rw [← HE.out,HUF.out]; exact HQ2.out
   | true =>
    have HUF:=Lib.hid (show upQ p k1=upQ (swapQ p m k1) m from by rw [HUP.out,hv]; rfl);clear hv;have hcl:=HQ2.out.cell;have hms:=fun F=>meth_swap hcl F
    have HSW:=Lib.hid (swap_c 145 ok base g n c m k1 p w2 HQ2.out.own (by omega) hk);go_wp2_with fail;refine HSW.out.mono ?_;clear HSW hms;rintro e w3 ⟨rfl,ho3,hg3⟩;have HQ3:Hid (QuM base bl g c ok n (swapQ p m k1) w3):=Lib.hid ⟨ho3,(cellGrown hg3 (fun e=>HQ2.out.ne (Option.some.inj e)) hcl),HQ2.out.ne,fun x hx=>HQ2.out.okq x (swapQ_mem x hx)⟩;have HG3:=Lib.hid (HG2.out.trans hg3);clear ho3 hg3 hcl;go_wp2_with fail;exact ⟨⟨m,swapQ p m k1,rfl,by omega,HQ3,HG3,Lib.hid (by rw [← HUF.out]; exact HE.out)⟩,by have:=HK1.out; simp [intOf]; omega⟩
noncomputable def downQ (m:Nat) (q:List QE) (i:Nat):List QE :=
 if h:m≤2*i+1 then q else if lessQ q (if 2*i+2 < m∧lessQ q (2*i+2) (2*i+1)=true then 2*i+2 else 2*i+1) i=true then
  downQ m (swapQ q i (if 2*i+2 < m∧lessQ q (2*i+2) (2*i+1)=true then 2*i+2 else 2*i+1)) (if 2*i+2 < m∧lessQ q (2*i+2) (2*i+1)=true then 2*i+2 else 2*i+1) else q
termination_by m - i
decreasing_by split <;> omega
theorem downQ_end {m:Nat} {q:List QE} {i:Nat} (h:m≤2*i+1):downQ m q i=q:=by rw [downQ,dif_pos h]
theorem downQ_step {m:Nat} {q:List QE} {i j:Nat} (h:¬ m≤2*i+1) (hj:j=if 2*i+2 < m∧lessQ q (2*i+2) (2*i+1)=true then 2*i+2 else 2*i+1):downQ m q i=if lessQ q j i=true then downQ m (swapQ q i j) j else q:=by
 conv=>lhs; rw [downQ]
 rw [dif_neg h,← hj]
def DnP (base bl g c:Nat) (ok:Nat→Prop) (n:Nat) (q:List QE) (w:World) (e:Ending) (w':World):Prop:=∃ b:Bool,e=.returned (.bool b)∧QuM base bl g c ok n q w'∧w.grownBy w' (some g)
set_option maxRecDepth 100000 in
set_option maxHeartbeats 8000000 in
theorem down_c (base bl g c:Nat) (ok:Nat→Prop) (n m:Nat) (hn:n≤17592186044416) (hm:m≤n) (q:List QE) (i:Nat) (w:World) (h:QuM base bl g c ok n q w) (hi:i≤m) :
 Calls Tryz.prog 102 #[.iface 148 (.pointer (some ⟨bl,6,none⟩)),.int .i64 (i:Int),.int .i64 (m:Int)] w (DnP base bl g c ok n (downQ m q i) w):=by
 have H:=Lib.hid h;have HI:=Lib.hid hi;clear h hi;go_enter Tryz.func102,Tryz.ntmps102;go_wp2_with fail
 go_loopw [7] (fun iv wr=>∃ (k:Nat) (p:List QE),iv=.int .i64 (k:Int)∧k≤m∧Hid (QuM base bl g c ok n p wr)∧Hid (w.grownBy wr (some g))∧Hid (downQ m p k=downQ m q i)) (fun iv _=>m - (intOf iv).toNat)
 case atStart=>exact ⟨i,q,rfl,HI.out,H,Lib.hid (World.grownBy.refl _ _),Lib.hid rfl⟩
 case round =>
  obtain ⟨k,p,rfl,hk,HQ,HG,HE⟩:=hrel;have hw1:IntKind.i64.wrap (2*(k:Int))=2*(k:Int):=IntWalk.i64_in _ (by omega);have hw2:IntKind.i64.wrap (2*(k:Int)+1)=2*(k:Int)+1:=IntWalk.i64_in _ (by omega);go_upto_region 3 with fail;obtain ⟨l1,hl1⟩:∃ l,l=2*k+1:=⟨_,rfl⟩;have hli:2*(k:Int)+1=(l1:Int):=(by omega);rw [hli];have HL1:=Lib.hid hl1;clear hw1 hw2 hli hl1
  by_cases hlm:m≤l1
  ·have h1:(m:Int)≤(l1:Int):=(by omega);have HLM:=Lib.hid hlm;clear hlm;go_wp2_with fail;go_ret;refine ⟨_,rfl,?_,HG.out⟩;rw [← HE.out,downQ_end (by have:=HL1.out; have:=HLM.out; omega)]; exact HQ.out
  ·have h1:¬ (m:Int)≤(l1:Int):=(by omega);have h2:¬ (l1:Int) < 0:=(by omega);have hw3:IntKind.i64.wrap ((l1:Int)+1)=(l1:Int)+1:=IntWalk.i64_in _ (by have:=HL1.out; omega);have HLM:=Lib.hid hlm;clear hlm;go_upto_region 6 with fail;obtain ⟨l2,hl2⟩:∃ l,l=l1+1:=⟨_,rfl⟩;have hli:(l1:Int)+1=(l2:Int):=(by omega);rw [hli];have HL2:=Lib.hid hl2;clear hw3 hli hl2 h1 h2
   by_cases hlm:l2 < m
   ·have h1:(l2:Int) < (m:Int):=(by omega);have HLN:=Lib.hid hlm;have HLE:=Lib.hid (less_c (fun _=>True) (some ⟨g,0,none⟩) n c l2 l1 p wr HQ.out.toSl HQ.out.okq (by omega) (by have:=HL2.out; omega));have hcl:=HQ.out.cell;have hml:=fun F=>meth_less hcl F
    clear hlm;go_wp2_with fail;refine HLE.out.mono ?_;clear HLE hml hcl h1;rintro e w2 ⟨rfl,hb2⟩;have HQ2:=Lib.hid (HQ.out.via hb2);have HG2:=Lib.hid (HG.out.trans (grownOfT hb2 (some g)));clear hb2;cases hv:lessQ p l2 l1 with
    | true =>
     have HJE:=Lib.hid (show l2=if 2*k+2 < m∧lessQ p (2*k+2) (2*k+1)=true then 2*k+2 else 2*k+1 from by
      have e1:=HL1.out;have e2:=HL2.out
      rw [show 2*k+2=l2 by omega,show 2*k+1=l1 by omega,if_pos ⟨HLN.out,hv⟩])
     have HJM:=Lib.hid (show l2 < m∧k < l2 from by have:=HLN.out; have:=HL1.out; have:=HL2.out; omega);clear hv;go_upto_region 8 with fail;have HST:=Lib.hid (downQ_step (m:=m) (q:=p) (i:=k) (j:=l2) (by have:=HL1.out; have:=HLM.out; omega) HJE.out);have HLX:=Lib.hid (less_c (fun _=>True) (some ⟨g,0,none⟩) n c l2 k p w2 HQ2.out.toSl HQ2.out.okq (by have:=HJM.out; omega) (by have:=HJM.out; omega));have hcl:=HQ2.out.cell;have hml:=fun F=>meth_less hcl F
     go_wp2_with fail;refine HLX.out.mono ?_;clear HLX hml hcl;rintro e w4 ⟨rfl,hb4⟩;have HQ4:=Lib.hid (HQ2.out.via hb4);have HG4:=Lib.hid (HG2.out.trans (grownOfT hb4 (some g)));clear hb4;cases hv:lessQ p l2 k with
     | false =>
      have HUF:=Lib.hid (show downQ m p k=p from by rw [HST.out,hv]; rfl);clear hv;go_wp2_with fail;go_ret;refine ⟨_,rfl,?_,HG4.out⟩;rw [← HE.out,HUF.out]; exact HQ4.out
     | true =>
      have HUF:=Lib.hid (show downQ m p k=downQ m (swapQ p k l2) l2 from by rw [HST.out,hv]; rfl);clear hv;have hcl:=HQ4.out.cell;have hms:=fun F=>meth_swap hcl F
      have HSW:=Lib.hid (swap_c 145 ok base g n c k l2 p w4 HQ4.out.own (by have:=HJM.out; omega) (by have:=HJM.out; omega));go_wp2_with fail;refine HSW.out.mono ?_;clear HSW hms;rintro e w5 ⟨rfl,ho5,hg5⟩;have HQ5:Hid (QuM base bl g c ok n (swapQ p k l2) w5):=Lib.hid ⟨ho5,(cellGrown hg5 (fun e=>HQ4.out.ne (Option.some.inj e)) hcl),HQ4.out.ne,fun x hx=>HQ4.out.okq x (swapQ_mem x hx)⟩;have HG5:=Lib.hid (HG4.out.trans hg5);clear ho5 hg5 hcl;go_wp2_with fail;have hjm:=HJM.out;exact ⟨⟨l2,swapQ p k l2,rfl,by omega,HQ5,HG5,Lib.hid (by rw [← HUF.out]; exact HE.out)⟩,by simp [intOf]; omega⟩
    | false =>
     have HJE:=Lib.hid (show l1=if 2*k+2 < m∧lessQ p (2*k+2) (2*k+1)=true then 2*k+2 else 2*k+1 from by
      have e1:=HL1.out;have e2:=HL2.out
      rw [show 2*k+2=l2 by omega,show 2*k+1=l1 by omega,if_neg (by rw [hv]; simp)])
     have HJM:=Lib.hid (show l1 < m∧k < l1 from by have:=HLN.out; have:=HL1.out; have:=HL2.out; omega);clear hv;go_upto_region 8 with fail;have HST:=Lib.hid (downQ_step (m:=m) (q:=p) (i:=k) (j:=l1) (by have:=HL1.out; have:=HLM.out; omega) HJE.out);have HLX:=Lib.hid (less_c (fun _=>True) (some ⟨g,0,none⟩) n c l1 k p w2 HQ2.out.toSl HQ2.out.okq (by have:=HJM.out; omega) (by have:=HJM.out; omega));have hcl:=HQ2.out.cell;have hml:=fun F=>meth_less hcl F
     go_wp2_with fail;refine HLX.out.mono ?_;clear HLX hml hcl;rintro e w4 ⟨rfl,hb4⟩;have HQ4:=Lib.hid (HQ2.out.via hb4);have HG4:=Lib.hid (HG2.out.trans (grownOfT hb4 (some g)));clear hb4;cases hv:lessQ p l1 k with
     | false =>
      have HUF:=Lib.hid (show downQ m p k=p from by rw [HST.out,hv]; rfl);clear hv;go_wp2_with fail;go_ret;refine ⟨_,rfl,?_,HG4.out⟩;rw [← HE.out,HUF.out]; exact HQ4.out
     | true =>
      have HUF:=Lib.hid (show downQ m p k=downQ m (swapQ p k l1) l1 from by rw [HST.out,hv]; rfl);clear hv;have hcl:=HQ4.out.cell;have hms:=fun F=>meth_swap hcl F
      have HSW:=Lib.hid (swap_c 145 ok base g n c k l1 p w4 HQ4.out.own (by have:=HJM.out; omega) (by have:=HJM.out; omega));go_wp2_with fail;refine HSW.out.mono ?_;clear HSW hms;rintro e w5 ⟨rfl,ho5,hg5⟩;have HQ5:Hid (QuM base bl g c ok n (swapQ p k l1) w5):=Lib.hid ⟨ho5,(cellGrown hg5 (fun e=>HQ4.out.ne (Option.some.inj e)) hcl),HQ4.out.ne,fun x hx=>HQ4.out.okq x (swapQ_mem x hx)⟩;have HG5:=Lib.hid (HG4.out.trans hg5);clear ho5 hg5 hcl;go_wp2_with fail;have hjm:=HJM.out;exact ⟨⟨l1,swapQ p k l1,rfl,by omega,HQ5,HG5,Lib.hid (by rw [← HUF.out]; exact HE.out)⟩,by simp [intOf]; omega⟩
   ·have h1:¬ (l2:Int) < (m:Int):=(by omega)
    have HJE:=Lib.hid (show l1=if 2*k+2 < m∧lessQ p (2*k+2) (2*k+1)=true then 2*k+2 else 2*k+1 from by
     have e1:=HL1.out;have e2:=HL2.out
     rw [show 2*k+2=l2 by omega,show 2*k+1=l1 by omega,if_neg (fun h=>hlm h.1)])
    have HJM:=Lib.hid (show l1 < m∧k < l1 from by have:=HLM.out; have:=HL1.out; omega);clear hlm;go_upto_region 8 with fail;clear h1;have HST:=Lib.hid (downQ_step (m:=m) (q:=p) (i:=k) (j:=l1) (by have:=HL1.out; have:=HLM.out; omega) HJE.out);have HLX:=Lib.hid (less_c (fun _=>True) (some ⟨g,0,none⟩) n c l1 k p wr HQ.out.toSl HQ.out.okq (by have:=HJM.out; omega) (by have:=HJM.out; omega));have hcl:=HQ.out.cell;have hml:=fun F=>meth_less hcl F
    go_wp2_with fail;refine HLX.out.mono ?_;clear HLX hml hcl;rintro e w4 ⟨rfl,hb4⟩;have HQ4:=Lib.hid (HQ.out.via hb4);have HG4:=Lib.hid (HG.out.trans (grownOfT hb4 (some g)));clear hb4;cases hv:lessQ p l1 k with
    | false =>
     have HUF:=Lib.hid (show downQ m p k=p from by rw [HST.out,hv]; rfl);clear hv;go_wp2_with fail;go_ret;refine ⟨_,rfl,?_,HG4.out⟩;rw [← HE.out,HUF.out]; exact HQ4.out
    | true =>
     have HUF:=Lib.hid (show downQ m p k=downQ m (swapQ p k l1) l1 from by rw [HST.out,hv]; rfl);clear hv;have hcl:=HQ4.out.cell;have hms:=fun F=>meth_swap hcl F
     have HSW:=Lib.hid (swap_c 145 ok base g n c k l1 p w4 HQ4.out.own (by have:=HJM.out; omega) (by have:=HJM.out; omega));go_wp2_with fail;refine HSW.out.mono ?_;clear HSW hms;rintro e w5 ⟨rfl,ho5,hg5⟩;have HQ5:Hid (QuM base bl g c ok n (swapQ p k l1) w5):=Lib.hid ⟨ho5,(cellGrown hg5 (fun e=>HQ4.out.ne (Option.some.inj e)) hcl),HQ4.out.ne,fun x hx=>HQ4.out.okq x (swapQ_mem x hx)⟩;have HG5:=Lib.hid (HG4.out.trans hg5);clear ho5 hg5 hcl;go_wp2_with fail;have hjm:=HJM.out;exact ⟨⟨l1,swapQ p k l1,rfl,by omega,HQ5,HG5,Lib.hid (by rw [← HUF.out]; exact HE.out)⟩,by simp [intOf]; omega⟩
end Go.Proofs.YtfcihnpmeabacaaGreatDoor
