/- Texts KN, KO, KP, KQ, laid together. -/
import Derived.Test.YtfcihnpmeabacaaGreatDoorW1
import Derived.Laws.StructEq
namespace Go.Proofs.YtfcihnpmeabacaaGreatDoor
open Go.RowKit
def Agr (ok:Nat→Prop) (w w':World):Prop:=∀ b,ok b→b < w.heap.size→w'.heap[b]?=w.heap[b]?
section
variable {ok ok':Nat→Prop} {w w' w'':World}
theorem Agr.refl:Agr ok w w:=fun _ _ _=>rfl
theorem Agr.trans (h:Agr ok w w') (k:Agr ok w' w''):Agr ok w w'':=fun b hb hlt=>by
 have h1:=h b hb hlt
 have:b < w'.heap.size:=by
  have h2:w.heap[b]?=some w.heap[b]:=Array.getElem?_eq_getElem hlt;rw [h2] at h1;exact (Array.getElem?_eq_some_iff.1 h1).1
 rw [k b hb this,h1]
theorem Agr.mono (h:Agr ok w w') (hm:∀ b,ok' b→ok b):Agr ok' w w':=fun b hb hlt=>h b (hm b hb) hlt
theorem Agr.below (h:Below w.heap.size w w'):Agr ok w w':=fun b _ hlt=>h.block b hlt
theorem Agr.grown {row:Option Nat} (h:w.grownBy w' row) (hr:∀ b,ok b→some b≠row):Agr ok w w':=fun b hb hlt=>h.block b hlt (hr b hb)
theorem Agr.setCell {p:Addr} (u:Value) (hr:∀ b,ok b→b≠p.block):Agr ok w (w.setCell p u):=fun b hb _=>Below.heap_setCell w p u b (hr b hb)
theorem Agr.cell (h:Agr ok w w') {b i:Nat} (hb:ok b) {v:Value} (hc:w.cell? ⟨b,i,none⟩=some v):w'.cell? ⟨b,i,none⟩=some v :=
 (World.cell?_of_block (w:=w) (a:=⟨b,i,none⟩) (h b hb (World.block_lt_of_cell? w _ hc))).trans hc
end
def Cel (ok:Nat→Prop) (w:World) (A:Option Addr) (cs:List Value):Prop :=
 cs≠[]→∃ b off,A=some ⟨b,off,none⟩∧ok b∧∀ j u,cs[j]?=some u→w.cell? ⟨b,off+j,none⟩=some u
section
variable {ok ok':Nat→Prop} {w w':World} {A:Option Addr} {cs:List Value}
theorem Cel.agr (h:Cel ok w A cs) (k:Agr ok w w'):Cel ok w' A cs:=fun hn=>by
 obtain ⟨b,off,e,hb,hc⟩:=h hn;exact ⟨b,off,e,hb,fun j u hu=>k.cell hb (hc j u hu)⟩
theorem Cel.mono (h:Cel ok w A cs) (hm:∀ b,b < w.heap.size→ok b→ok' b):Cel ok' w A cs:=fun hn=>by
 obtain ⟨b,off,e,hb,hc⟩:=h hn;refine ⟨b,off,e,hm b ?_ hb,hc⟩;cases cs with
 | nil=>exact absurd rfl hn
 | cons u r=>exact World.block_lt_of_cell? w _ (hc 0 u rfl)
theorem Cel.nil:Cel ok w A []:=fun h=>absurd rfl h
end
structure Elem (α ρ:Type) where
 k:Nat
 cells:ρ→List Value
 rel:(Nat→Prop)→World→ρ→α→Prop
 pos:0 < k
 len:∀ r,(cells r).length=k
 one:∀ r,∀ u∈cells r,u.oneCell'=true
 agr:∀ {ok w w' r x},rel ok w r x→Agr ok w w'→rel ok w' r x
 mono:∀ {ok ok':Nat→Prop} {w r x},rel ok w r x→(∀ b,b < w.heap.size→ok b→ok' b)→rel ok' w r x
section
variable {α ρ:Type} (E:Elem α ρ)
def flat (raw:List ρ):List Value:=raw.flatMap E.cells
variable {E}
theorem flat_len (raw:List ρ):(flat E raw).length=raw.length*E.k:=by
 induction raw with
 | nil=>simp [flat]
 | cons r raw ih=>simp only [flat,List.flatMap_cons,List.length_append,E.len,List.length_cons] at *; rw [ih,Nat.add_mul]; omega
theorem flat_at (raw:List ρ):∀ i r j u,raw[i]?=some r→(E.cells r)[j]?=some u→(flat E raw)[i*E.k+j]?=some u:=by
 induction raw with
 | nil=>intro i r j u h; simp at h
 | cons a raw ih =>
  intro i r j u h hu;have hj:j < E.k:=(by rw [← E.len r]; exact (List.getElem?_eq_some_iff.1 hu).1);cases i with
  | zero =>
   simp at h; subst h;simp only [flat,List.flatMap_cons,Nat.zero_mul,Nat.zero_add];rw [List.getElem?_append_left (by rw [E.len]; exact hj)]; exact hu
  | succ i =>
   simp at h;have:=ih i r j u h hu;simp only [flat,List.flatMap_cons] at *;rw [List.getElem?_append_right (by rw [E.len,Nat.add_mul]; omega),E.len,Nat.add_mul];rw [show i*E.k+1*E.k+j - E.k=i*E.k+j from by omega];exact this
theorem flat_snoc (raw:List ρ) (r:ρ):flat E (raw++[r])=flat E raw++E.cells r:=by simp [flat]
end
def Sl {α ρ:Type} (E:Elem α ρ) (ok:Nat→Prop) (w:World) (A:Option Addr) (n c:Nat) (l:List α):Prop :=
 l.length=n∧n≤c∧∃ raw:List ρ,raw.length=n∧Cel ok w A (flat E raw)∧∀ (i:Nat) (r:ρ) (x:α),raw[i]?=some r→l[i]?=some x→E.rel ok w r x
section
variable {α ρ:Type} {E:Elem α ρ} {ok ok':Nat→Prop} {w w':World} {A:Option Addr} {n c:Nat} {l:List α}
theorem Sl.len (h:Sl E ok w A n c l):l.length=n:=h.1
theorem Sl.le (h:Sl E ok w A n c l):n≤c:=h.2.1
theorem Sl.agr (h:Sl E ok w A n c l) (k:Agr ok w w'):Sl E ok w' A n c l:=by
 obtain ⟨h1,h2,raw,h3,h4,h5⟩:=h;exact ⟨h1,h2,raw,h3,h4.agr k,fun i r x hr hx=>E.agr (h5 i r x hr hx) k⟩
theorem Sl.mono (h:Sl E ok w A n c l) (hm:∀ b,b < w.heap.size→ok b→ok' b):Sl E ok' w A n c l:=by
 obtain ⟨h1,h2,raw,h3,h4,h5⟩:=h;exact ⟨h1,h2,raw,h3,h4.mono hm,fun i r x hr hx=>E.mono (h5 i r x hr hx) hm⟩
theorem Sl.via (h:Sl E ok w A n c l) (hb:Below w.heap.size w w'):Sl E ok w' A n c l:=h.agr (Agr.below hb)
theorem Sl.al (h:Sl E ok w A n c l) (o:Obj):Sl E ok (w.alloc o) A n c l:=h.agr (Agr.below ((Below.refl w.heap.size w).alloc (Nat.le_refl _) o))
theorem Sl.dr (h:Sl E ok w A n c l):Sl E ok w.drew A n c l:=h.agr (Agr.below ((Below.refl w.heap.size w).drew))
theorem Sl.nil (c:Nat):Sl E ok w none 0 c []:=⟨rfl,Nat.zero_le _,[],rfl,Cel.nil,fun i r x h=>by simp at h⟩
theorem Sl.at_ (h:Sl E ok w A n c l) {i:Nat} (hi:i < n):∃ b off r x,A=some ⟨b,off,none⟩∧ok b∧b < w.heap.size∧l[i]?=some x∧E.rel ok w r x∧∀ j u,(E.cells r)[j]?=some u→w.cell? ⟨b,off+i*E.k+j,none⟩=some u:=by
 obtain ⟨h1,h2,raw,h3,h4,h5⟩:=h;have hr:raw[i]?=some raw[i]:=List.getElem?_eq_getElem (by omega);have hx:l[i]?=some l[i]:=List.getElem?_eq_getElem (by omega)
 have hne:flat E raw≠[]:=fun e=>by
  have:=flat_len (E:=E) raw;rw [e,h3] at this;have hp:=Nat.mul_pos (show 0 < n by omega) E.pos;simp at this; omega
 obtain ⟨b,off,e,hb,hc⟩:=h4 hne
 have hcell:∀ j u,(E.cells raw[i])[j]?=some u→w.cell? ⟨b,off+i*E.k+j,none⟩=some u:=fun j u hu=>by
  have:=hc _ u (flat_at raw i raw[i] j u hr hu)
  rwa [← Nat.add_assoc] at this
 have hp0:0 < (E.cells raw[i]).length:=(by rw [E.len]; exact E.pos);have h0:(E.cells raw[i])[0]?=some (E.cells raw[i])[0]:=List.getElem?_eq_getElem hp0;exact ⟨b,off,raw[i],l[i],e,hb,World.block_lt_of_cell? w _ (hcell 0 _ h0),hx,h5 i _ _ hr hx,hcell⟩
end
def Own {α ρ:Type} (E:Elem α ρ) (e:TypeId) (ok:Nat→Prop) (w:World) (base:Nat) (v:Value) (n:Nat) (l:List α):Prop :=
 l.length=n∧∃ raw:List ρ,raw.length=n∧w.ownsRow base e E.k v n (flat E raw)∧∀ (i:Nat) (r:ρ) (x:α),raw[i]?=some r→l[i]?=some x→E.rel (fun b=>ok b∧some b≠v.ownBlock) w r x
section
variable {α ρ:Type} {E:Elem α ρ} {e:TypeId} {ok ok':Nat→Prop} {w w':World} {base n:Nat} {v:Value} {l:List α}
theorem Own.nil (w:World) (base:Nat):Own E e ok w base (.slice none 0 0) 0 []:=⟨rfl,[],rfl,World.ownsRow_nil w base e E.k,fun i r x h=>by simp at h⟩
theorem Own.agr (h:Own E e ok w base v n l) (k:Agr (fun b=>ok b∨some b=v.ownBlock) w w'):Own E e ok w' base v n l:=by
 obtain ⟨h1,raw,h3,h4,h5⟩:=h;refine ⟨h1,raw,h3,⟨h4.1,?_⟩,fun i r x hr hx=>E.agr (h5 i r x hr hx) (k.mono fun b hb=>Or.inl hb.1)⟩
 rcases h4.2 with h0 | ⟨g,cap,cur,rfl,hb,hh,hr⟩
 ·exact Or.inl h0
 ·refine Or.inr ⟨g,cap,cur,rfl,hb,?_,hr⟩;rw [k g (Or.inr rfl) (Array.getElem?_eq_some_iff.1 hh).1];exact hh
theorem Own.mono (h:Own E e ok w base v n l) (hm:∀ b,b < w.heap.size→ok b→ok' b):Own E e ok' w base v n l:=by
 obtain ⟨h1,raw,h3,h4,h5⟩:=h;exact ⟨h1,raw,h3,h4,fun i r x hr hx=>E.mono (h5 i r x hr hx) fun b hb hk=>⟨hm b hb hk.1,hk.2⟩⟩
theorem Own.via (h:Own E e ok w base v n l) (hb:Below w.heap.size w w'):Own E e ok w' base v n l:=h.agr (Agr.below hb)
theorem Own.al (h:Own E e ok w base v n l) (o:Obj):Own E e ok (w.alloc o) base v n l:=h.agr (Agr.below ((Below.refl w.heap.size w).alloc (Nat.le_refl _) o))
theorem Own.dr (h:Own E e ok w base v n l):Own E e ok w.drew base v n l:=h.agr (Agr.below ((Below.refl w.heap.size w).drew))
theorem Own.lt (h:Own E e ok w base v n l):∀ k,v.ownBlock=some k→base≤k∧k < w.heap.size:=by
 obtain ⟨_,raw,_,h4,_⟩:=h;exact h4.lt
theorem Own.len (h:Own E e ok w base v n l):l.length=n:=h.1
theorem Own.form (h:Own E e ok w base v n l):∃ A c,v=.slice A n c∧n≤c:=by
 obtain ⟨_,raw,_,h4,_⟩:=h
 rcases h4.2 with ⟨rfl,rfl⟩ | ⟨g,cap,cur,rfl,_,_,hc,_⟩
 ·exact ⟨none,0,rfl,Nat.le_refl _⟩
 ·exact ⟨_,_,rfl,hc⟩
theorem Own.toSl {A:Option Addr} {n' c:Nat} (h:Own E e ok w base (.slice A n' c) n l) (hm:∀ b,b < w.heap.size→ok b→ok' b) (hb:∀ b,base≤b→ok' b):Sl E ok' w A n c l:=by
 obtain ⟨A',c',e',hc⟩:=h.form;obtain ⟨h1,raw,h3,h4,h5⟩:=h;cases e'
 refine ⟨h1,hc,raw,h3,fun hne=>?_,fun i r x hr hx=>E.mono (h5 i r x hr hx) fun b hb hk=>hm b hb hk.1⟩
 rcases h4.2 with ⟨h0,hn⟩ | ⟨g,cap,cur,hv,hbg,hh,hr⟩
 ·have:raw=[]:=List.eq_nil_of_length_eq_zero (by omega);subst this; exact absurd rfl hne
 ·cases hv
  refine ⟨g,0,rfl,hb g hbg,fun j u hu=>?_⟩;have:=h4.cells (g:=g) rfl j u hu
  rwa [Addr.add_lit] at this
theorem Own.setCell (h:Own E e ok w base v n l) {p:Addr} (u:Value) (h1:∀ b,ok b→b≠p.block) (h2:p.block < base):Own E e ok (w.setCell p u) base v n l:=by
 refine h.agr (Agr.setCell u fun b hb=>?_)
 rcases hb with hb | hb
 ·exact h1 b hb
 ·have:=(h.lt b hb.symm).1; omega
end
section
variable {α ρ:Type} {E:Elem α ρ}
theorem run_append_E (w:World) (t ty e:TypeId) (i:TypeInfo) (z:Value) (bytes:Nat) (ht:Tryz.prog.underlying t=some (.slice e)) (hi:Tryz.prog.info? e=some i) (hz:i.zero=some z) (hs:i.size=E.k) (hby:i.bytes=bytes) (hzs:z.cells.size=E.k)
 (ok:Nat→Prop) (base:Nat) (v:Value) (n:Nat) (l:List α) (hown:Own E e ok w base v n l)
 (b:Nat) (r:ρ) (x:α) (hcell:∀ j u,(E.cells r)[j]?=some u→w.cell? ⟨b,j,none⟩=some u) (hrel:E.rel (fun b=>ok b∧some b≠v.ownBlock) w r x)
 (h63:n+1≤maxLen) (hbytes:(n+1)*bytes≤140737488355328) (hbase:base≤w.heap.size) :
 ∃ A' c' w',(Builtin.append_ #[t,t] ty #[v,.slice (some ⟨b,0,none⟩) 1 1]).run Tryz.prog w=.ok (.slice A' (n+1) c') w'∧Own E e ok w' base (.slice A' (n+1) c') (n+1) (l++[x])∧w.grownBy w' v.ownBlock ∧
  ((Value.slice A' (n+1) c').ownBlock=v.ownBlock∨(Value.slice A' (n+1) c').ownBlock=some w.heap.size):=by
 obtain ⟨h1,raw,h3,h4,h5⟩:=hown;obtain ⟨v',w',hrun,h6,h7,_,h8⟩:=run_append_own_at (P:=Tryz.prog) w base t ty e i z E.k bytes ht hi hz hs hby hzs E.pos v n _ h4 ⟨b,0,none⟩ 1 1 (E.cells r) (by rw [E.len,Nat.one_mul]) (fun j u hu=>by rw [Addr.add_lit,Nat.zero_add]; exact hcell j u hu) (E.one r) h63 hbytes hbase
 have hown':Own E e ok w' base v' (n+1) (l++[x]):=by
  refine ⟨by simp [h1],raw++[r],by simp [h3],by rw [flat_snoc]; exact h6,fun i r' x' hr' hx'=>?_⟩
  have key:E.rel (fun b=>ok b∧some b≠v.ownBlock) w r' x':=by
   rcases Nat.lt_or_ge i n with hi' | hi'
   ·rw [List.getElem?_append_left (by omega)] at hr' hx';exact h5 i r' x' hr' hx'
   ·rw [List.getElem?_append_right (by omega)] at hr' hx'
    have e1:i - raw.length=0:=by
     have:=(List.getElem?_eq_some_iff.1 hr').1;simp at this; omega
    have e2:i - l.length=0:=(by omega);rw [e1] at hr'; rw [e2] at hx';simp at hr' hx';subst hr'; subst hx';exact hrel
  have k1:=E.mono (ok':=fun b=>(ok b∧some b≠v.ownBlock)∧b < w.heap.size) key fun b hb hk=>⟨hk,hb⟩
  refine E.mono (E.agr k1 (Agr.grown h7 fun b hb=>hb.1.2)) fun b _ hk=>⟨hk.1.1,?_⟩
  rcases h8 with e8 | e8
  ·rw [e8]; exact hk.1.2
  ·rw [e8]; intro e9; cases e9; exact absurd hk.2 (Nat.lt_irrefl _)
 obtain ⟨A',c',rfl,_⟩:=hown'.form;exact ⟨A',c',w',hrun,hown',h7,h8⟩
theorem wp_append_E {o:Oper} {a:Act} {K:Act→World→Prop} {Q:Exit→Act→World→Prop} (w:World) (s y:Operand) (t e:TypeId)
 (ho:o.op=.call { callee:=.builtin .append,args:=#[s,y],argTypes:=#[t,t] }) (i:TypeInfo) (z:Value) (bytes:Nat) (ht:Tryz.prog.underlying t=some (.slice e)) (hi:Tryz.prog.info? e=some i) (hz:i.zero=some z) (hs:i.size=E.k) (hby:i.bytes=bytes) (hzs:z.cells.size=E.k)
 (ok:Nat→Prop) (base:Nat) (v:Value) (n:Nat) (l:List α) (hv:a.eval s=v) (hown:Own E e ok w base v n l)
 (b:Nat) (r:ρ) (x:α) (hy:a.eval y=.slice (some ⟨b,0,none⟩) 1 1) (hcell:∀ j u,(E.cells r)[j]?=some u→w.cell? ⟨b,j,none⟩=some u) (hrel:E.rel (fun b=>ok b∧some b≠v.ownBlock) w r x)
 (h63:n+1≤maxLen) (hbytes:(n+1)*bytes≤140737488355328) (hbase:base≤w.heap.size)
 (h:∀ A' c' w',Own E e ok w' base (.slice A' (n+1) c') (n+1) (l++[x])→w.grownBy w' v.ownBlock→((Value.slice A' (n+1) c').ownBlock=v.ownBlock∨(Value.slice A' (n+1) c').ownBlock=some w.heap.size)→K (a.put o.dst (.slice A' (n+1) c')) w'):o.wp Tryz.prog a w K Q:=by
 obtain ⟨A',c',w',hrun,h2,h3,h4⟩:=run_append_E w t o.type e i z bytes ht hi hz hs hby hzs ok base v n l hown b r x hcell hrel h63 hbytes hbase;unfold Oper.wp execOp;simp only [ho,resolve,invoke,builtin,Sem.run_bind,Sem.run_pure,Result.andThen_ok,List.map_toArray,List.map_cons,List.map_nil,hv,hy,hrun];exact h A' c' w' h2 h3 h4
theorem wpList_append_E {ops:Array Oper} {rest:List Oper} {o:Oper} {a:Act} {Q:Exit→Act→World→Prop} (w:World) (hgd:o.guard=none) (s y:Operand) (t e:TypeId)
 (ho:o.op=.call { callee:=.builtin .append,args:=#[s,y],argTypes:=#[t,t] }) (i:TypeInfo) (z:Value) (bytes:Nat) (ht:Tryz.prog.underlying t=some (.slice e)) (hi:Tryz.prog.info? e=some i) (hz:i.zero=some z) (hs:i.size=E.k) (hby:i.bytes=bytes) (hzs:z.cells.size=E.k)
 (ok:Nat→Prop) (base:Nat) (v:Value) (n:Nat) (l:List α) (hv:a.eval s=v) (hown:Own E e ok w base v n l)
 (b:Nat) (r:ρ) (x:α) (hy:a.eval y=.slice (some ⟨b,0,none⟩) 1 1) (hcell:∀ j u,(E.cells r)[j]?=some u→w.cell? ⟨b,j,none⟩=some u) (hrel:E.rel (fun b=>ok b∧some b≠v.ownBlock) w r x)
 (h63:n+1≤maxLen) (hbytes:(n+1)*bytes≤140737488355328) (hbase:base≤w.heap.size)
 (h:∀ A' c' w',Own E e ok w' base (.slice A' (n+1) c') (n+1) (l++[x])→w.grownBy w' v.ownBlock→((Value.slice A' (n+1) c').ownBlock=v.ownBlock∨(Value.slice A' (n+1) c').ownBlock=some w.heap.size)→wpList Tryz.prog ops Q rest (a.put o.dst (.slice A' (n+1) c')) w'):wpList Tryz.prog ops Q (o::rest) a w :=
 wpList_plain hgd fun _ hK=>wp_append_E w s y t e ho i z bytes ht hi hz hs hby hzs ok base v n l hv hown b r x hy hcell hrel h63 hbytes hbase fun A' c' w' h2 h3 h4=>hK _ _ (h A' c' w' h2 h3 h4)
theorem step_append_E {ops:Array Oper} {o:Oper} {a:Act} {K:Act→World→Prop} {Q:Exit→Act→World→Prop} {F:Prop} (w:World) (hgd:o.guard=none) (s y:Operand) (t e:TypeId)
 (ho:o.op=.call { callee:=.builtin .append,args:=#[s,y],argTypes:=#[t,t] }) (i:TypeInfo) (z:Value) (bytes:Nat) (ht:Tryz.prog.underlying t=some (.slice e)) (hi:Tryz.prog.info? e=some i) (hz:i.zero=some z) (hs:i.size=E.k) (hby:i.bytes=bytes) (hzs:z.cells.size=E.k)
 (ok:Nat→Prop) (base:Nat) (v:Value) (n:Nat) (l:List α) (hv:a.eval s=v) (hown:Own E e ok w base v n l)
 (b:Nat) (r:ρ) (x:α) (hy:a.eval y=.slice (some ⟨b,0,none⟩) 1 1) (hcell:∀ j u,(E.cells r)[j]?=some u→w.cell? ⟨b,j,none⟩=some u) (hrel:E.rel (fun b=>ok b∧some b≠v.ownBlock) w r x)
 (h63:n+1≤maxLen) (hbytes:(n+1)*bytes≤140737488355328) (hbase:base≤w.heap.size)
 (h:∀ A' c' w',Own E e ok w' base (.slice A' (n+1) c') (n+1) (l++[x])→w.grownBy w' v.ownBlock→((Value.slice A' (n+1) c').ownBlock=v.ownBlock∨(Value.slice A' (n+1) c').ownBlock=some w.heap.size)→K (a.put o.dst (.slice A' (n+1) c')) w') :
 if Region.wanted o (yielded ops a.tmps)=true then Oper.wp Tryz.prog o a w K Q else F:=by
 rw [if_pos (by simp [Region.wanted,hgd])];exact wp_append_E w s y t e ho i z bytes ht hi hz hs hby hzs ok base v n l hv hown b r x hy hcell hrel h63 hbytes hbase h
end
end Go.Proofs.YtfcihnpmeabacaaGreatDoor
namespace Go.Proofs.YtfcihnpmeabacaaGreatDoor
open Go.RowKit
abbrev SlV:=Option Addr×Nat×Nat
abbrev Sy:=Bool×Nat
def SyE:Elem Sy Sy where
 k:=2
 cells s:=[.bool s.1,.int .i64 (s.2:Int)]
 rel _ _ r x:=r=x
 pos:=by omega
 len _:=rfl
 one r u hu:=by simp at hu; rcases hu with rfl | rfl <;> rfl
 agr h _:=h
 mono h _:=h
abbrev Ru:=Nat×List Sy
def RuE:Elem Ru (Nat×SlV) where
 k:=2
 cells r:=[.int .i64 (r.1:Int),.slice r.2.1 r.2.2.1 r.2.2.2]
 rel ok w r x:=r.1=x.1∧Sl SyE ok w r.2.1 r.2.2.1 r.2.2.2 x.2
 pos:=by omega
 len _:=rfl
 one r u hu:=by simp at hu; rcases hu with rfl | rfl <;> rfl
 agr h k:=⟨h.1,h.2.agr k⟩
 mono h k:=⟨h.1,h.2.mono k⟩
structure Gr where
 terms:Nat
 nons:Nat
 start:Nat
 rules:List Ru
inductive Tr where
 | leaf (t:Nat)
 | node (r:Nat) (kids:List Tr)
abbrev TrV:=Int×Int×SlV
def trCells (r:TrV):List Value:=[.int .i64 r.1,.int .i64 r.2.1,.slice r.2.2.1 r.2.2.2.1 r.2.2.2.2]
inductive TreeR (ok:Nat→Prop) (w:World):TrV→Tr→Prop
 | leaf (t:Nat) (A:Option Addr) (c:Nat):TreeR ok w (-1,(t:Int),A,0,c) (.leaf t)
 | node (r:Nat) (A:Option Addr) (n c:Nat) (kids:List Tr) (raw:List TrV) (hl:kids.length=n) (hc:n≤c) (hr:raw.length=n) (hcel:Cel ok w A (raw.flatMap trCells))
  (hk:∀ (i:Nat) (x:TrV) (t:Tr),raw[i]?=some x→kids[i]?=some t→TreeR ok w x t):TreeR ok w ((r:Int),0,A,n,c) (.node r kids)
theorem TreeR.agr {ok:Nat→Prop} {w w':World} {v:TrV} {t:Tr} (h:TreeR ok w v t) (k:Agr ok w w'):TreeR ok w' v t:=by
 induction h with
 | leaf t A c=>exact .leaf t A c
 | node r A n c kids raw hl hc hr hcel _ ih=>exact .node r A n c kids raw hl hc hr (hcel.agr k) ih
theorem TreeR.mono {ok ok':Nat→Prop} {w:World} {v:TrV} {t:Tr} (h:TreeR ok w v t) (k:∀ b,b < w.heap.size→ok b→ok' b):TreeR ok' w v t:=by
 induction h with
 | leaf t A c=>exact .leaf t A c
 | node r A n c kids raw hl hc hr hcel _ ih=>exact .node r A n c kids raw hl hc hr (hcel.mono k) ih
def TrE:Elem Tr TrV where
 k:=3
 cells:=trCells
 rel:=TreeR
 pos:=by omega
 len _:=rfl
 one r u hu:=by simp [trCells] at hu; rcases hu with rfl | rfl | rfl <;> rfl
 agr h k:=h.agr k
 mono h k:=h.mono k
section
variable {ok ok':Nat→Prop} {w w':World} {v:TrV} {t:Tr}
theorem TreeR.via (h:TreeR ok w v t) (hb:Below w.heap.size w w'):TreeR ok w' v t:=h.agr (Agr.below hb)
theorem TreeR.al (h:TreeR ok w v t) (o:Obj):TreeR ok (w.alloc o) v t:=h.agr (Agr.below ((Below.refl w.heap.size w).alloc (Nat.le_refl _) o))
theorem TreeR.dr (h:TreeR ok w v t):TreeR ok w.drew v t:=h.agr (Agr.below ((Below.refl w.heap.size w).drew))
theorem TreeR.kids {r tm:Int} {A:Option Addr} {n c:Nat} {rn:Nat} {kids:List Tr} (h:TreeR ok w (r,tm,A,n,c) (.node rn kids)):r=rn∧tm=0∧Sl TrE ok w A n c kids:=by
 cases h with
 | node _ _ _ _ _ raw hl hc hr hcel hk=>exact ⟨rfl,rfl,hl,hc,raw,hr,hcel,hk⟩
theorem TreeR.mk (rn:Nat) {A:Option Addr} {n c:Nat} {kids:List Tr} (h:Sl TrE ok w A n c kids):TreeR ok w ((rn:Int),0,A,n,c) (.node rn kids):=by
 obtain ⟨h1,h2,raw,h3,h4,h5⟩:=h;exact .node rn A n c kids raw h1 h2 h3 h4 h5
end
def trVal (v:TrV):Value:=.agg #[.int .i64 v.1,.int .i64 v.2.1,.slice v.2.2.1 v.2.2.2.1 v.2.2.2.2]
def grVal (g:Gr) (A:Option Addr) (n c:Nat):Value:=.agg #[.int .i64 (g.terms:Int),.int .i64 (g.nons:Int),.int .i64 (g.start:Int),.slice A n c]
mutual
def Tr.size:Tr→Nat
 | .leaf _=>1
 | .node _ ks=>Tr.sizes ks+1
def Tr.sizes:List Tr→Nat
 | []=>0
 | t::ts=>t.size+Tr.sizes ts
end
mutual
def Tr.word:Tr→List Nat
 | .leaf t=>[t]
 | .node _ ks=>Tr.words ks
def Tr.words:List Tr→List Nat
 | []=>[]
 | t::ts=>t.word++Tr.words ts
end
def Tr.kids:Tr→List Tr
 | .leaf _=>[]
 | .node _ ks=>ks
def Gr.okSy (g:Gr) (s:Sy):Prop:=if s.1 then s.2 < g.terms else s.2 < g.nons
structure Gr.Ok (g:Gr):Prop where
 terms:1≤g.terms∧g.terms≤8
 nons:1≤g.nons∧g.nons≤10
 start:g.start < g.nons
 count:g.rules.length≤32
 left:∀ r∈g.rules,r.1 < g.nons
 right:∀ r∈g.rules,r.2.length≤4∧∀ s∈r.2,g.okSy s
end Go.Proofs.YtfcihnpmeabacaaGreatDoor
namespace Go.Proofs.YtfcihnpmeabacaaGreatDoor
open Go.RowKit
set_option maxHeartbeats 1000000 in
theorem snext_c1 (w0 w:World) (b:Nat) (n:Int) (A:Option Addr) (m c:Nat) (ls:List Int) (hI:Ints w0 A m c ls) (hB:Below w0.heap.size w0 w)
 (hcell:w.cell? ⟨b,0,none⟩=some (.slice A m c)) (hf:w.frozen? ⟨b,0,none⟩=false) (hn:n≤1000000000) (hn1:1≤n) :
 Calls Tryz.prog 56 #[.pointer (some ⟨b,0,none⟩),.int .i64 n] w (NextP1 w0 w m b n):=by
 by_cases h0:m=0
 ·have hfin:NextP1 w0 w m b n (.returned (.int .i64 0)) w:=⟨0,A,m,c,ls,rfl,by omega,by omega,Nat.le_refl _,(setCell_self hcell).symm,hI⟩;have hfin':=Lib.hid hfin;clear hfin hI;subst h0;go_enter Tryz.func56,Tryz.ntmps56
  go_wp2
  go_ret;exact hfin'.out
 ·have h1:0 < m:=(by omega);have h2:1≤n:=hn1;clear h0;obtain ⟨b1,off,hA,hb1,hx⟩:=hI.at_ h1;have hx':w.cell? ⟨b1,off,none⟩=some (.int .i64 (ls.getD 0 0)):=(hB.cell (p:=⟨b1,off,none⟩) hb1).trans hx;have hcut:=Ints.cut (l:=1) (m:=m) hI (by omega) (Nat.le_refl _);have hcut':=Lib.hid hcut;have hlo:=belowI_lo (ls.getD 0 0) n h2;have hhi:=belowI_hi (ls.getD 0 0) n h2;subst hA;generalize ls.getD 0 0=x at *;clear hcut hI hB hx;have k1:((m:Int)==0)=false:=(by simp; omega);have k2:decide (n < 1)=false:=(by simp; omega);go_enter Tryz.func56,Tryz.ntmps56;go_wp2_with (go_at_call 51; refine (below_c x n _ (by omega) (by omega)).mono ?_; rintro e w' ⟨rfl,rfl⟩)
  all_goals
   go_ret;refine ⟨_,_,_,_,(ls.take m).drop 1,rfl,hlo,hhi,Nat.sub_le _ _,rfl,?_⟩
   simpa [*,Addr.add] using hcut'.out
def NextN (w0 w:World) (m0:Nat) (b:Nat) (n:Nat) (e:Ending) (w':World):Prop :=
 ∃ (v:Nat) (A:Option Addr) (m c:Nat) (ls:List Int),e=.returned (.int .i64 (v:Int))∧v < n∧m≤m0∧w'=w.setCell ⟨b,0,none⟩ (.slice A m c)∧Ints w0 A m c ls
theorem snext_n (w0 w:World) (b:Nat) (n:Nat) (q:Int) (hq:q=(n:Int)) (A:Option Addr) (m c:Nat) (ls:List Int) (hI:Ints w0 A m c ls) (hB:Below w0.heap.size w0 w)
 (hcell:w.cell? ⟨b,0,none⟩=some (.slice A m c)) (hf:w.frozen? ⟨b,0,none⟩=false) (hn:n≤1000000000) (hn1:1≤n) :
 Calls Tryz.prog 56 #[.pointer (some ⟨b,0,none⟩),.int .i64 q] w (NextN w0 w m b n):=by
 subst hq;refine (snext_c1 w0 w b n A m c ls hI hB hcell hf (by omega) (by omega)).mono ?_;rintro e w' ⟨v,A',m',c',l',rfl,h2,h3,h4⟩;exact ⟨v.toNat,A',m',c',l',by rw [Int.toNat_of_nonneg h2],by omega,h4⟩
end Go.Proofs.YtfcihnpmeabacaaGreatDoor
namespace Go.Proofs.YtfcihnpmeabacaaGreatDoor
open Go.RowKit
theorem slice_decide_take {α:Type} [DecidableEq α] (xs ys:List α) (k:Nat) (hx:k < xs.length) (hy:k < ys.length) :
 decide (xs.take (k+1)=ys.take (k+1))=(decide (xs.take k=ys.take k)&&decide (xs[k]=ys[k])):=by
 rw [List.take_succ_eq_append_getElem hx,List.take_succ_eq_append_getElem hy,Bool.eq_iff_iff];simp only [Bool.and_eq_true,decide_eq_true_eq];constructor
 ·intro h;have hl:(xs.take k).length=(ys.take k).length:=(by simp; omega);obtain ⟨h1,h2⟩:=List.append_inj h hl;exact ⟨h1,by simpa using h2⟩
 ·rintro ⟨h1,h2⟩;rw [h1,h2]
def BoolB (w:World) (b:Bool) (e:Ending) (w':World):Prop:=e=.returned (.bool b)∧Below w.heap.size w w'
def HasRel (w:World) (l:List Ru) (x:Ru) (k:Nat) (B:Option Addr) (m d:Nat) (wr:World):Prop :=
 (∀ j,j < k→l[j]?≠some x)∧Blk wr w.heap.size 74 #[.int .i64 (x.1:Int),.slice B m d]∧Below w.heap.size w wr
theorem HasRel.next {w:World} {l:List Ru} {x:Ru} {k:Nat} {B:Option Addr} {m d:Nat} {wr:World} {o:Obj} (h:HasRel w l x k B m d wr) (hn:l[k]?≠some x):HasRel w l x (k+1) B m d (wr.alloc o) :=
 ⟨fun j hj=>by
  rcases Nat.lt_or_ge j k with h1 | h1
  ·exact h.1 j h1
  ·obtain rfl:j=k:=(by omega)
   exact hn,h.2.1.al _,h.2.2.al _⟩
theorem HasRel.drewN {w:World} {l:List Ru} {x:Ru} {k:Nat} {B:Option Addr} {m d:Nat} {wr:World} (h:HasRel w l x k B m d wr) (q:Nat):HasRel w l x k B m d (wr.drewN q) :=
 ⟨h.1,h.2.1,below_drewN h.2.2 q⟩
theorem not_mem_of {l:List Ru} {x:Ru} {n:Nat} (h:∀ j,j < n→l[j]?≠some x) (hl:l.length=n):x∉l:=fun hm=>by
 obtain ⟨j,hj,e⟩:=List.mem_iff_getElem.1 hm;exact h j (by omega) (by rw [List.getElem?_eq_getElem hj,e])
set_option maxRecDepth 100000 in
set_option maxHeartbeats 4000000 in
theorem has_c (ok ok':Nat→Prop) (A B:Option Addr) (n c m d:Nat) (l:List Ru) (x:Ru) (w:World) (hl:Sl RuE ok w A n c l) (hx:Sl SyE ok' w B m d x.2) (hn:n≤1000000) (hm:m≤1000000) :
 Calls Tryz.prog 57 #[.slice A n c,.agg #[.int .i64 (x.1:Int),.slice B m d]] w (BoolB w (decide (x∈l))):=by
 obtain ⟨bb,hbb⟩:∃ bb,bb=decide (x∈l):=⟨_,rfl⟩;rw [← hbb];have HB:=Lib.hid hbb;clear hbb;have HL:=Lib.hid hl;have HX:=Lib.hid hx;have hlen:=hl.len;have Hlen:=Lib.hid hlen;have hxl:=Lib.hid hx.len;clear hl hx hlen;go_enter Tryz.func57,Tryz.ntmps57;go_wp2_with fail
 go_loopw [11] (fun i wr=>∃ k:Nat,i=.int .i64 k∧k≤n∧HasRel w l x k B m d wr) (fun i _=>n - (intOf i).toNat)
 case atStart=>exact ⟨0,rfl,Nat.zero_le _,fun j hj=>absurd hj (by omega),Blk.new _ _ _,(Below.refl _ _).al _⟩
 case round =>
  obtain ⟨k,rfl,hk,hr⟩:=hrel
  by_cases hlt:k < n
  ·obtain ⟨b,off,raw,y,rfl,-,hb,hy,⟨hy1,hy2⟩,hc⟩:=HL.out.at_ hlt;have c0:=hc 0 _ rfl;have c1:=hc 1 _ rfl;simp only [RuE,Nat.add_zero] at c0 c1;replace c0:=(hr.2.2.cell (p:=⟨b,off+k*2,none⟩) hb).trans c0;replace c1:=(hr.2.2.cell (p:=⟨b,off+k*2+1,none⟩) hb).trans c1;have i0:(0:Int)≤(k:Int):=(by omega);have i1:(k:Int) < (n:Int):=(by omega);obtain ⟨rl,Ay,ny,cy⟩:=raw;simp only at hy1 hy2 c0 c1;subst hy1;have HY:=Lib.hid hy;have HY2:=Lib.hid hy2;have HR:=Lib.hid hr;have Br:=hr.2.1;have hB:=hr.2.2;clear hc hy hy2 hr hb
   by_cases e1:y.1=x.1
   ·have t1:((y.1:Int) != (x.1:Int))=false:=(by rw [bne_eq_false_iff_eq]; omega);have E1:=Lib.hid e1;clear e1
    by_cases e2:ny=m
    ·subst e2;have t2:((ny:Int) != (ny:Int))=false:=(by simp);have hnB:=hB.size;have cBr:=Br.cell;have fBr:=Br.frozen;have lBr:=Br.lt;go_wp2_with fail;obtain ⟨wo,rfl⟩:∃ wo:World,wo=wr:=⟨_,rfl⟩;have Bx:=Blk.new wo 74 #[.int .i64 (y.1:Int),.slice Ay ny cy];replace Br:=Br.al (.cells #[.int .i64 (y.1:Int),.slice Ay ny cy] 74);have hB2:=hB.al (.cells #[.int .i64 (y.1:Int),.slice Ay ny cy] 74);clear cBr fBr lBr
     go_loopw [7,32] (fun sm i wr=>∃ j:Nat,i=.int .i64 j∧j≤ny∧sm=.bool (decide (y.2.take j=x.2.take j))∧∃ q,wr=(wo.alloc (.cells #[.int .i64 (y.1:Int),.slice Ay ny cy] 74)).drewN q) (fun _ i _=>ny - (intOf i).toNat)
     case atStart=>exact ⟨0,rfl,Nat.zero_le _,by simp,0,rfl⟩
     case round =>
      obtain ⟨j,rfl,hj,rfl,q,rfl⟩:=hrel
      by_cases hjl:j < ny
      ·obtain ⟨b1,o1,s1,s1',rfl,-,hb1,hs1,hs1',hc1⟩:=HY2.out.at_ hjl;obtain ⟨b2,o2,s2,s2',rfl,-,hb2,hs2,hs2',hc2⟩:=HX.out.at_ hjl;have hs1'':s1=s1':=hs1';have hs2'':s2=s2':=hs2';subst hs1'' hs2'';have d0:=(hB2.cell (p:=⟨b1,o1+j*2,none⟩) hb1).trans (hc1 0 _ rfl);have d1:=(hB2.cell (p:=⟨b1,o1+j*2+1,none⟩) hb1).trans (hc1 1 _ rfl);have d2:=(hB2.cell (p:=⟨b2,o2+j*2,none⟩) hb2).trans (hc2 0 _ rfl);have d3:=(hB2.cell (p:=⟨b2,o2+j*2+1,none⟩) hb2).trans (hc2 1 _ rfl);have hly:j < y.2.length:=(List.getElem?_eq_some_iff.1 hs1).1;have hlx:j < x.2.length:=(List.getElem?_eq_some_iff.1 hs2).1;have hsn:=slice_decide_take y.2 x.2 j hly hlx;rw [(List.getElem?_eq_some_iff.1 hs1).2,(List.getElem?_eq_some_iff.1 hs2).2] at hsn;have HS:=Lib.hid hsn;have j0:(0:Int)≤(j:Int):=(by omega);have j1:(j:Int) < (ny:Int):=(by omega);clear hs1 hs2 hc1 hc2 hsn hs1' hs2' hb1 hb2 hly hlx;obtain ⟨p1,p2⟩:=s1;obtain ⟨p3,p4⟩:=s2;have cBr:=Br.cell;have fBr:=Br.frozen;have lBr:=Br.lt;have cBx:=Bx.cell;have fBx:=Bx.frozen;have lBx:=Bx.lt
       by_cases hd:y.2.take j=x.2.take j
       ·have hd':decide (y.2.take j=x.2.take j)=true:=(by simpa using hd);have HD:=Lib.hid hd';rw [hd'];clear hd hd'
        by_cases g1:p1=p3
        ·by_cases g2:p2=p4
         ·subst g1 g2;go_wp2_with fail
          go_quiet (fail)
          go_wp2_with fail;exact ⟨⟨j+1,by go_num,by omega,by rw [HS.out,HD.out]; simp,_,rfl⟩,by simp [intOf]; omega⟩
         ·have t3:((p2:Int)==(p4:Int))=false:=(by rw [beq_eq_false_iff_ne]; omega);have t4:(p2==p4)=false:=(by rw [beq_eq_false_iff_ne]; omega);have G2:=Lib.hid g2;subst g1;clear g2;go_wp2_with fail
          go_quiet (fail)
          go_wp2_with fail;exact ⟨⟨j+1,by go_num,by omega,by rw [HS.out,HD.out]; simp [G2.out],_,rfl⟩,by simp [intOf]; omega⟩
        ·have t3:(p1==p3)=false:=(by rw [beq_eq_false_iff_ne]; exact g1);have G1:=Lib.hid g1;clear g1;go_wp2_with fail
         go_quiet (fail)
         go_wp2_with fail;exact ⟨⟨j+1,by go_num,by omega,by rw [HS.out,HD.out]; simp [G1.out],_,rfl⟩,by simp [intOf]; omega⟩
       ·have hd':decide (y.2.take j=x.2.take j)=false:=(by simpa using hd);have HD:=Lib.hid hd';rw [hd'];clear hd hd';go_wp2_with fail
        go_quiet (fail)
        go_wp2_with fail;exact ⟨⟨j+1,by go_num,by omega,by rw [HS.out,HD.out]; simp,_,rfl⟩,by simp [intOf]; omega⟩
      ·have hje:j=ny:=(by omega)
       have hjj:decide (y.2.take j=x.2.take j)=decide (l[k]?=some x):=by
        rw [HY.out,List.take_of_length_le (by rw [HY2.out.len]; omega),List.take_of_length_le (by rw [hxl.out]; omega),Bool.eq_iff_iff];simp only [decide_eq_true_eq,Option.some.injEq];constructor
        ·intro e; exact Prod.ext E1.out e
        ·intro e; rw [e]
       rw [hjj]
       by_cases hd:l[k]?=some x
       ·have hd':decide (l[k]?=some x)=true:=(by simpa using hd);rw [hd'];have hin:decide (x∈l)=true:=(by simpa using List.mem_of_getElem? hd);have HI:=Lib.hid hin;clear hd hd' hin hjj hje;go_wp2_with fail;go_ret;exact ⟨by rw [HB.out,HI.out]; rfl,below_drewN hB2 _⟩
       ·have hd':decide (l[k]?=some x)=false:=(by simpa using hd);rw [hd'];have HN:=Lib.hid hd;clear hd hd' hjj hje;go_wp2_with fail;exact ⟨⟨k+1,by go_num,by omega,(HasRel.next HR.out HN.out).drewN q⟩,by simp [intOf]; omega⟩
    ·have t2:((ny:Int) != (m:Int))=true:=(by rw [bne_iff_ne]; omega);have hne:l[k]?≠some x:=fun e=>e2 (by rw [HY.out] at e; cases e; rw [← HY2.out.len,hxl.out])
     have HN:=Lib.hid hne;clear e2 hne;have cBr:=Br.cell;have fBr:=Br.frozen;have lBr:=Br.lt;go_wp2_with fail;exact ⟨⟨k+1,by go_num,by omega,HasRel.next HR.out HN.out⟩,by simp [intOf]; omega⟩
   ·have t1:((y.1:Int) != (x.1:Int))=true:=(by rw [bne_iff_ne]; omega);have hne:l[k]?≠some x:=fun e=>e1 (by rw [HY.out] at e; cases e; rfl)
    have HN:=Lib.hid hne;clear e1 hne;have cBr:=Br.cell;have fBr:=Br.frozen;have lBr:=Br.lt;go_wp2_with fail;exact ⟨⟨k+1,by go_num,by omega,HasRel.next HR.out HN.out⟩,by simp [intOf]; omega⟩
  ·have hfin:decide (x∈l)=false:=by
    have:=not_mem_of (n:=n) (fun j hj=>hr.1 j (by omega)) Hlen.out
    simpa using this
   have HF:=Lib.hid hfin;have hB:=hr.2.2;clear hfin hr;go_wp2_with fail;go_ret;exact ⟨by rw [HB.out,HF.out]; rfl,hB⟩
end Go.Proofs.YtfcihnpmeabacaaGreatDoor
