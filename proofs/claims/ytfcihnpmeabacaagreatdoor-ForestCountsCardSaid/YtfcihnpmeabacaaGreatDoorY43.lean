/- Texts JE, TA, TB, laid together. -/
import Derived.Test.YtfcihnpmeabacaaGreatDoorY17
import Derived.Test.YtfcihnpmeabacaaGreatDoorY5
import Derived.Test.YtfcihnpmeabacaaGreatDoorY42
import Derived.ProofKit
import Derived.OpenShut
import Derived.Deep.Slices
import Derived.Lib.SmallJoins
namespace Go.Proofs.YtfcihnpmeabacaaGreatDoor
open Go.RowKit
theorem flat_inv {α ρ:Type} {E:Elem α ρ} {raw:List ρ} {q:Nat} {u:Value} (h:(flat E raw)[q]?=some u):∃ i j r,raw[i]?=some r∧(E.cells r)[j]?=some u∧q=i*E.k+j:=by
 have hq:=(List.getElem?_eq_some_iff.1 h).1;rw [flat_len] at hq;have hk:=E.pos;have hi:q / E.k < raw.length:=(Nat.div_lt_iff_lt_mul hk).2 hq;have hj:q % E.k < E.k:=Nat.mod_lt _ hk;have hr:=List.getElem?_eq_getElem hi;have hc:(E.cells (raw[q / E.k]))[q % E.k]?=some ((E.cells (raw[q / E.k]))[q % E.k]'(by rw [E.len]; exact hj)):=List.getElem?_eq_getElem _;have h2:=flat_at raw _ _ _ _ hr hc;have e:q / E.k*E.k+q % E.k=q:=Nat.div_add_mod' q E.k;rw [e,h] at h2;exact ⟨_,_,_,hr,by rw [hc]; exact h2.symm,e.symm⟩
theorem list_two {α:Type} {l:List α} (h:l.length=2):∃ a b,l=[a,b]:=by
 match l,h with
 | [a,b],_=>exact ⟨a,b,rfl⟩
section
variable {H:Type} {enc:TypeId×Value→H} {w:World} {base:Nat} {spare:Nat→Bool} {held:Bool}
theorem open_sl {P:Program} {α ρ:Type} (E:Elem α ρ) {t e:TypeId} {fuel:Nat} {v:Value} {x:DataW H×List MemPlace} (ht:P.underlying t=some (.slice e)) (hk:P.cellsOf e=E.k)
 (ho:∀ n cs y,DataW.trod enc P w base spare held n e cs=some y→∃ r z,cs=E.cells r∧E.rel (fun b=>b < w.heap.size) w r z)
 (h:DataW.trod enc P w base spare held fuel t [v]=some x):∃ A n c l,v=.slice A n c∧Sl E (fun b=>b < w.heap.size) w A n c l:=by
 rcases Deep.open_slice ht h with ⟨hcs,-⟩ | ⟨a,len,cap,m,n,D,Pl,hcs,hb,hl,hm,hmm,-,hel⟩
 ·exact ⟨none,0,0,[],by simpa using hcs,Sl.nil 0⟩
 ·have hlm:len≤m:=(by rw [hmm]; split <;> omega)
  have key:∀ i:Fin len,∃ rz:ρ×α,(∀ j u,(E.cells rz.1)[j]?=some u→w.cell? ((a.add (i*E.k)).add j)=some u)∧E.rel (fun b=>b < w.heap.size) w rz.1 rz.2:=by
   intro i;obtain ⟨cs',h1,h2⟩:=hel i (by have:=i.isLt; omega);obtain ⟨r,z,rfl,hr⟩:=ho _ _ _ h2;refine ⟨(r,z),fun j u hu=>?_,hr⟩;unfold World.cells? at h1
   split at h1
   ·have hj:j < E.k:=(by rw [← E.len r]; exact (List.getElem?_eq_some_iff.1 hu).1);have:=mapM_some_get h1 j j (by rw [hk,List.getElem?_range hj]);rw [hk] at this;rw [this]; exact hu
   ·cases h1
  obtain ⟨f,hf⟩:=Classical.axiomOfChoice key;refine ⟨some a,len,cap,List.ofFn (fun i=>(f i).2),by simpa using hcs,by simp,hl,List.ofFn (fun i=>(f i).1),by simp,fun hne=>?_,fun i r z hr hz=>?_⟩
  ·obtain ⟨b,off,spot⟩:=a
   have hspot:spot=none:=by
    have h0:0 < len:=by
     rcases Nat.eq_zero_or_pos len with h0 | h0
     ·subst h0; exact absurd rfl hne
     ·exact h0
    have hc:=(hf ⟨0,h0⟩).1 0 ((E.cells (f ⟨0,h0⟩).1)[0]'(by rw [E.len]; exact E.pos)) (List.getElem?_eq_getElem _);cases spot with
    | none=>rfl
    | some sp =>
     unfold World.cell? at hc
     split at hc <;> simp [Addr.add] at hc
   subst hspot
   have hcell:∀ j u,(flat E (List.ofFn fun i=>(f i).1))[j]?=some u→w.cell? ⟨b,off+j,none⟩=some u:=fun j u hu=>by
    obtain ⟨i,j',r,hr,hc,rfl⟩:=flat_inv hu;have hi:i < len:=(by have:=(List.getElem?_eq_some_iff.1 hr).1; simpa using this)
    have hr':r=(f ⟨i,hi⟩).1:=by
     rw [List.getElem?_eq_getElem (by simpa using hi)] at hr
     simpa using (Option.some.inj hr).symm
    subst hr';have:=(hf ⟨i,hi⟩).1 j' u hc;rw [Addr.add_lit,Addr.add_lit] at this;rw [← Nat.add_assoc]; exact this
   refine ⟨b,off,rfl,?_,hcell⟩
   obtain ⟨u,hu⟩:∃ u,(flat E (List.ofFn fun i=>(f i).1))[0]?=some u:=by
    cases hfl:flat E (List.ofFn fun i=>(f i).1) with
    | nil=>exact absurd hfl hne
    | cons u l=>exact ⟨u,by simp⟩
   exact World.block_lt_of_cell? w _ (hcell 0 u hu)
  ·have hi:i < len:=(by have:=(List.getElem?_eq_some_iff.1 hr).1; simpa using this);rw [List.getElem?_eq_getElem (by simpa using hi)] at hr hz;have e1:r=(f ⟨i,hi⟩).1:=(by simpa using (Option.some.inj hr).symm);have e2:z=(f ⟨i,hi⟩).2:=(by simpa using (Option.some.inj hz).symm);rw [e1,e2]; exact (hf ⟨i,hi⟩).2
theorem read_int {P:Program} {t:TypeId} (ht:P.underlying t=some (.int .i64)) {fuel:Nat} {cs:List Value} {x:DataW H×List MemPlace} (h:DataW.trod enc P w base spare held fuel t cs=some x):∃ n:Int,cs=[.int .i64 n]∧(Lit.int .i64 n).wf=true:=by
 cases fuel with
 | zero=>simp [DataW.trod] at h
 | succ m =>
  unfold DataW.trod at h;rw [ht] at h
  split at h <;> simp_all
theorem read_bool {P:Program} {t:TypeId} (ht:P.underlying t=some .bool) {fuel:Nat} {cs:List Value} {x:DataW H×List MemPlace} (h:DataW.trod enc P w base spare held fuel t cs=some x):∃ b:Bool,cs=[.bool b]:=by
 cases fuel with
 | zero=>simp [DataW.trod] at h
 | succ m =>
  unfold DataW.trod at h;rw [ht] at h
  split at h <;> simp_all
set_option maxRecDepth 100000 in
theorem open_sym (n:Nat) (cs:List Value) (y:DataW H×List MemPlace) (h:DataW.trod enc Tryz.prog w base spare held n 69 cs=some y):∃ r z,cs=SiE.cells r∧SiE.rel (fun b=>b < w.heap.size) w r z:=by
 obtain ⟨xs,m,-,-,hl,hn,hf⟩:=DataW.trod_struct Tryz.underlying69 h;have hc:Tryz.prog.cellsOf 69=2:=(by kernel_rfl);have hb:Tryz.prog.cellsOf 4=1:=(by kernel_rfl);have hi:Tryz.prog.cellsOf 3=1:=(by kernel_rfl);rw [hc] at hl;obtain ⟨c0,c1,rfl⟩:=list_two hl;have h0:DataW.trod enc Tryz.prog w base spare held m 4 ([c0,c1].take (Tryz.prog.cellsOf 4))=xs[0]?:=hf 0 _ rfl;have h1:DataW.trod enc Tryz.prog w base spare held m 3 ([c1].take (Tryz.prog.cellsOf 3))=xs[1]?:=hf 1 _ rfl;rw [hb] at h0;rw [hi] at h1;simp only [List.take_succ_cons,List.take_zero] at h0 h1;have hn2:xs.length=2:=hn;obtain ⟨b,hb'⟩:=read_bool Tryz.underlying4 (h0.trans (List.getElem?_eq_getElem (by omega)));obtain ⟨k,hk',-⟩:=read_int Tryz.underlying3 (h1.trans (List.getElem?_eq_getElem (by omega)));refine ⟨(b,k),(b,k),?_,rfl⟩;simp at hb' hk';rw [hb',hk']; rfl
set_option maxRecDepth 100000 in
theorem open_rule (n:Nat) (cs:List Value) (y:DataW H×List MemPlace) (h:DataW.trod enc Tryz.prog w base spare held n 74 cs=some y):∃ r z,cs=RiE.cells r∧RiE.rel (fun b=>b < w.heap.size) w r z:=by
 obtain ⟨xs,m,-,-,hl,hn,hf⟩:=DataW.trod_struct Tryz.underlying74 h;have hc:Tryz.prog.cellsOf 74=2:=(by kernel_rfl);have hs:Tryz.prog.cellsOf 72=1:=(by kernel_rfl);have hi:Tryz.prog.cellsOf 3=1:=(by kernel_rfl);rw [hc] at hl;obtain ⟨c0,c1,rfl⟩:=list_two hl;have h0:DataW.trod enc Tryz.prog w base spare held m 3 ([c0,c1].take (Tryz.prog.cellsOf 3))=xs[0]?:=hf 0 _ rfl;have h1:DataW.trod enc Tryz.prog w base spare held m 72 ([c1].take (Tryz.prog.cellsOf 72))=xs[1]?:=hf 1 _ rfl;rw [hi] at h0;rw [hs] at h1;simp only [List.take_succ_cons,List.take_zero] at h0 h1;have hn2:xs.length=2:=hn;obtain ⟨k,hk',-⟩:=read_int Tryz.underlying3 (h0.trans (List.getElem?_eq_getElem (by omega)));obtain ⟨A,n',c,l,hv,hsl⟩:=open_sl SiE Tryz.underlying72 (by kernel_rfl) open_sym (h1.trans (List.getElem?_eq_getElem (by omega)));refine ⟨(k,A,n',c),(k,l),?_,rfl,hsl⟩;simp at hk';rw [hk',hv]; rfl
set_option maxRecDepth 100000 in
theorem open_gram {r:Reach} {b0:Nat} {v:Value} {d:DataW H} {p:List MemPlace} (hv:Value.okWide Tryz.prog w r b0 24 v) (h:DataW.Trod enc Tryz.prog w base spare held 24 v d p) :
 ∃ (T N S:Int) (A:Option Addr) (n c:Nat) (rs:List Ri),v=.agg #[.int .i64 T,.int .i64 N,.int .i64 S,.slice A n c]∧Sl RiE (fun b=>b < w.heap.size) w A n c rs:=by
 obtain ⟨v0,v1,v2,v3,y0,y1,y2,y3,n,rfl,-,-,h0,h1,h2,h3⟩:=Joins.open_agg4 Tryz.underlying24 (by kernel_rfl) (by kernel_rfl) hv h;obtain ⟨T,hT,-⟩:=read_int Tryz.underlying3 h0;obtain ⟨N,hN,-⟩:=read_int Tryz.underlying3 h1;obtain ⟨S,hS,-⟩:=read_int Tryz.underlying3 h2;obtain ⟨A,k,c,l,hv3,hsl⟩:=open_sl RiE Tryz.underlying22 (by kernel_rfl) open_rule h3;simp at hT hN hS;exact ⟨T,N,S,A,k,c,l,by rw [hT,hN,hS,hv3],hsl⟩
end
end Go.Proofs.YtfcihnpmeabacaaGreatDoor
namespace Go.Proofs.YtfcihnpmeabacaaGreatDoor
open Go.RowKit
theorem list_five {α:Type} {l:List α} (h:l.length=5):∃ a b c d e,l=[a,b,c,d,e]:=by
 match l,h with
 | [a,b,c,d,e],_=>exact ⟨a,b,c,d,e,rfl⟩
section
variable {H:Type} {enc:TypeId×Value→H} {w:World} {base:Nat} {spare:Nat→Bool} {held:Bool}
theorem open_one (n:Nat) (cs:List Value) (y:DataW H×List MemPlace) (h:DataW.trod enc Tryz.prog w base spare held n 3 cs=some y):∃ r z,cs=InE.cells r∧InE.rel (fun b=>b < w.heap.size) w r z:=by
 obtain ⟨k,hk,-⟩:=read_int Tryz.underlying3 h;exact ⟨k,k,hk,rfl⟩
set_option maxRecDepth 100000 in
theorem open_pack (n:Nat) (cs:List Value) (y:DataW H×List MemPlace) (h:DataW.trod enc Tryz.prog w base spare held n 104 cs=some y):∃ r z,cs=FpE.cells r∧FpE.rel (fun b=>b < w.heap.size) w r z:=by
 obtain ⟨xs,m,-,-,hl,hn,hf⟩:=DataW.trod_struct Tryz.underlying104 h;have hc:Tryz.prog.cellsOf 104=2:=(by kernel_rfl);have hs:Tryz.prog.cellsOf 25=1:=(by kernel_rfl);have hi:Tryz.prog.cellsOf 3=1:=(by kernel_rfl);rw [hc] at hl;obtain ⟨c0,c1,rfl⟩:=list_two hl;have h0:DataW.trod enc Tryz.prog w base spare held m 3 ([c0,c1].take (Tryz.prog.cellsOf 3))=xs[0]?:=hf 0 _ rfl;have h1:DataW.trod enc Tryz.prog w base spare held m 25 ([c1].take (Tryz.prog.cellsOf 25))=xs[1]?:=hf 1 _ rfl;rw [hi] at h0;rw [hs] at h1;simp only [List.take_succ_cons,List.take_zero] at h0 h1;have hn2:xs.length=2:=hn;obtain ⟨k,hk',-⟩:=read_int Tryz.underlying3 (h0.trans (List.getElem?_eq_getElem (by omega)));obtain ⟨A,n',c,l,hv,hsl⟩:=open_sl InE Tryz.underlying25 (by kernel_rfl) open_one (h1.trans (List.getElem?_eq_getElem (by omega)));refine ⟨(k,A,n',c),(k,l),?_,rfl,hsl⟩;simp at hk';rw [hk',hv]; rfl
set_option maxRecDepth 100000 in
theorem open_node (n:Nat) (cs:List Value) (y:DataW H×List MemPlace) (h:DataW.trod enc Tryz.prog w base spare held n 102 cs=some y):∃ r z,cs=NdE.cells r∧NdE.rel (fun b=>b < w.heap.size) w r z:=by
 obtain ⟨xs,m,-,-,hl,hn,hf⟩:=DataW.trod_struct Tryz.underlying102 h;have hc:Tryz.prog.cellsOf 102=5:=(by kernel_rfl);have hy:Tryz.prog.cellsOf 69=2:=(by kernel_rfl);have hs:Tryz.prog.cellsOf 100=1:=(by kernel_rfl);have hi:Tryz.prog.cellsOf 3=1:=(by kernel_rfl);rw [hc] at hl;obtain ⟨c0,c1,c2,c3,c4,rfl⟩:=list_five hl;have h0:DataW.trod enc Tryz.prog w base spare held m 69 ([c0,c1,c2,c3,c4].take (Tryz.prog.cellsOf 69))=xs[0]?:=hf 0 _ rfl;have h1:DataW.trod enc Tryz.prog w base spare held m 3 ([c2,c3,c4].take (Tryz.prog.cellsOf 3))=xs[1]?:=hf 1 _ rfl;have h2:DataW.trod enc Tryz.prog w base spare held m 3 ([c3,c4].take (Tryz.prog.cellsOf 3))=xs[2]?:=hf 2 _ rfl;have h3:DataW.trod enc Tryz.prog w base spare held m 100 ([c4].take (Tryz.prog.cellsOf 100))=xs[3]?:=hf 3 _ rfl;rw [hy] at h0;rw [hi] at h1 h2;rw [hs] at h3;simp only [List.take_succ_cons,List.take_zero] at h0 h1 h2 h3;have hn2:xs.length=4:=hn;obtain ⟨⟨sb,sn⟩,z0,hk0,-⟩:=open_sym _ _ _ (h0.trans (List.getElem?_eq_getElem (by omega)));obtain ⟨k1,hk1,-⟩:=read_int Tryz.underlying3 (h1.trans (List.getElem?_eq_getElem (by omega)));obtain ⟨k2,hk2,-⟩:=read_int Tryz.underlying3 (h2.trans (List.getElem?_eq_getElem (by omega)));obtain ⟨A,n',c,l,hv,hsl⟩:=open_sl FpE Tryz.underlying100 (by kernel_rfl) open_pack (h3.trans (List.getElem?_eq_getElem (by omega)));refine ⟨((sb,sn,k1,k2),A,n',c),((sb,sn,k1,k2),l),?_,rfl,hsl⟩;simp [SiE] at hk0;simp at hk1 hk2;rw [hk0.1,hk0.2,hk1,hk2,hv]; rfl
set_option maxRecDepth 100000 in
theorem open_forest {r:Reach} {b0:Nat} {v:Value} {d:DataW H} {p:List MemPlace} (hv:Value.okWide Tryz.prog w r b0 45 v) (h:DataW.Trod enc Tryz.prog w base spare held 45 v d p) :
 ∃ (A:Option Addr) (n c:Nat) (R:Int) (nd:List NdI),v=.agg #[.slice A n c,.int .i64 R]∧Sl NdE (fun b=>b < w.heap.size) w A n c nd:=by
 obtain ⟨v0,v1,y0,y1,n,rfl,-,-,h0,h1⟩:=Joins.open_agg2 Tryz.underlying45 (by kernel_rfl) (by kernel_rfl) hv h;obtain ⟨A,k,c,l,hv0,hsl⟩:=open_sl NdE Tryz.underlying43 (by kernel_rfl) open_node h0;obtain ⟨T,hT,-⟩:=read_int Tryz.underlying3 h1;simp at hT;exact ⟨A,k,c,T,l,by rw [hv0,hT],hsl⟩
end
end Go.Proofs.YtfcihnpmeabacaaGreatDoor
namespace Go.Proofs.YtfcihnpmeabacaaGreatDoor
open Go.RowKit
theorem fo_bound2 {g:Gr} {D:Ky→Bool} {n most:Nat} {f:FoI} {b:Bool} (hg:g.Ok) (hn:n≤12) (hD:∀ k,D k=true→k.2.1≤k.2.2∧k.2.2≤n) (h:IsFo D g.rules ((false,g.start),0,n) most f b):f.2.length≤1000000∧∀ x∈f.2,x.2.length≤913952:=by
 cases h with
 | none=>exact ⟨by simp,by simp⟩
 | large=>exact ⟨by simp,by simp⟩
 | @fits L h1 h2 h3 =>
  have hk:∀ k∈L,KyOk g n k:=fun k hk=>RchK.ok hg hD ⟨by simpa [Gr.okSy] using hg.start,Nat.zero_le _,Nat.le_refl _⟩ ((h2.mem k).1 hk)
  have hl:=nodup_len h2.nodup hk hg hn;refine ⟨by simp [foI]; omega,fun x hx=>?_⟩;obtain ⟨k,hkL,rfl⟩:=List.mem_map.1 hx;have hp:=packs_len (D:=D) (k:=k) (fun u hu=>(hg.right u hu).1) hg.count (Nat.le_trans (hk k hkL).2.2 hn);rw [ndI_eq];simp only [List.length_map]; omega
end Go.Proofs.YtfcihnpmeabacaaGreatDoor
