/- Texts KR, BA, PA, laid together. -/
import Derived.Test.YtfcihnpmeabacaaGreatDoorW2
import Derived.Deep.RegionLaw
namespace Go.Proofs.YtfcihnpmeabacaaGreatDoor
open Go.RowKit
theorem sym_info:(Tryz.prog.info? 69).map (fun i=>(i.zero,i.size,i.bytes))=some (some (.agg #[.bool false,.int .i64 0]),2,16):=by kernel_rfl
theorem rule_info:(Tryz.prog.info? 74).map (fun i=>(i.zero,i.size,i.bytes))=some (some (.agg #[.int .i64 0,.slice none 0 0]),2,32):=by kernel_rfl
theorem Blk.set1 {w:World} {g:Nat} {t:TypeId} {a:Value} (h:Blk w g t #[a]) (u:Value):Blk (w.setCell ⟨g,0,none⟩ u) g t #[u]:=by have:=h.set_ 0 u; simpa using this
theorem step_append_sy {ops:Array Oper} {o:Oper} {a:Act} {K:Act→World→Prop} {Q:Exit→Act→World→Prop} {F:Prop} (w:World) (hgd:o.guard=none) (s y:Operand)
 (ho:o.op=.call { callee:=.builtin .append,args:=#[s,y],argTypes:=#[72,72] })
 (ok:Nat→Prop) (base:Nat) (v:Value) (n:Nat) (l:List Sy) (hv:a.eval s=v) (hown:Own SyE 69 ok w base v n l)
 (b:Nat) (x:Sy) (hy:a.eval y=.slice (some ⟨b,0,none⟩) 1 1) (hcell:Blk w b 69 #[.bool x.1,.int .i64 (x.2:Int)])
 (h63:n+1≤1000000) (hbase:base≤w.heap.size)
 (h:∀ A' c' w',Own SyE 69 ok w' base (.slice A' (n+1) c') (n+1) (l++[x])→w.grownBy w' v.ownBlock→((Value.slice A' (n+1) c').ownBlock=v.ownBlock∨(Value.slice A' (n+1) c').ownBlock=some w.heap.size)→K (a.put o.dst (.slice A' (n+1) c')) w') :
 if Region.wanted o (yielded ops a.tmps)=true then Oper.wp Tryz.prog o a w K Q else F:=by
 obtain ⟨i,hi,hz⟩:=Option.map_eq_some_iff.1 sym_info;simp only [Prod.mk.injEq] at hz;refine step_append_E (E:=SyE) w hgd s y 72 69 ho i (.agg #[.bool false,.int .i64 0]) 16 (by kernel_rfl) hi hz.1 hz.2.1 hz.2.2 rfl ok base v n l hv hown b x x hy (fun j u hu=>?_) rfl (by simp [maxLen]; omega) (by omega) hbase h;rw [hcell.cell j];rw [List.getElem?_toArray]; exact hu
theorem wpList_append_ru {ops:Array Oper} {rest:List Oper} {o:Oper} {a:Act} {Q:Exit→Act→World→Prop} (w:World) (hgd:o.guard=none) (s y:Operand)
 (ho:o.op=.call { callee:=.builtin .append,args:=#[s,y],argTypes:=#[22,22] })
 (ok:Nat→Prop) (base:Nat) (v:Value) (n:Nat) (l:List Ru) (hv:a.eval s=v) (hown:Own RuE 74 ok w base v n l)
 (b:Nat) (x:Ru) (A:Option Addr) (m c:Nat) (hy:a.eval y=.slice (some ⟨b,0,none⟩) 1 1) (hcell:Blk w b 74 #[.int .i64 (x.1:Int),.slice A m c]) (hrel:Sl SyE (fun b=>ok b∧some b≠v.ownBlock) w A m c x.2)
 (h63:n+1≤1000000) (hbase:base≤w.heap.size)
 (h:∀ A' c' w',Own RuE 74 ok w' base (.slice A' (n+1) c') (n+1) (l++[x])→w.grownBy w' v.ownBlock→((Value.slice A' (n+1) c').ownBlock=v.ownBlock∨(Value.slice A' (n+1) c').ownBlock=some w.heap.size)→wpList Tryz.prog ops Q rest (a.put o.dst (.slice A' (n+1) c')) w'):wpList Tryz.prog ops Q (o::rest) a w:=by
 obtain ⟨i,hi,hz⟩:=Option.map_eq_some_iff.1 rule_info;simp only [Prod.mk.injEq] at hz;refine wpList_append_E (E:=RuE) w hgd s y 22 74 ho i (.agg #[.int .i64 0,.slice none 0 0]) 32 (by kernel_rfl) hi hz.1 hz.2.1 hz.2.2 rfl ok base v n l hv hown b (x.1,A,m,c) x hy (fun j u hu=>?_) ⟨rfl,hrel⟩ (by simp [maxLen]; omega) (by omega) hbase h;rw [hcell.cell j];rw [List.getElem?_toArray]; exact hu
theorem Blk.newAt (w:World) (t:TypeId) (cs:Array Value) (k:Nat) (h:w.heap.size=k):Blk (w.alloc (.cells cs t)) k t cs:=by subst h; exact Blk.new w t cs
def RuOk (t n:Nat) (r:Ru):Prop:=r.1 < n∧r.2.length≤3∧∀ s∈r.2,if s.1 then s.2 < t else s.2 < n
structure GRel (w:World) (t n st m:Nat) (A:Option Addr) (m1 c1:Nat) (l1:List Int) (v:Value) (rules:List Ru) (wr:World):Prop where
 b0:Blk wr w.heap.size 24 #[.int .i64 0,.int .i64 0,.int .i64 0,.slice none 0 0]
 b1:Blk wr (w.heap.size+1) 118 #[.slice A m1 c1]
 b2:Blk wr (w.heap.size+1+1) 24 #[.int .i64 (t:Int),.int .i64 (n:Int),.int .i64 (st:Int),v]
 ints:Ints w A m1 c1 l1
 le:m1≤m
 own:Own RuE 74 (fun b=>w.heap.size+3≤b) wr (w.heap.size+3) v rules.length rules
 bel:Below w.heap.size w wr
 size:w.heap.size+3≤wr.heap.size
 nodup:rules.Nodup
 ok:∀ r∈rules,RuOk t n r
structure IRel (w:World) (t n st m left br:Nat) (A:Option Addr) (m1 c1:Nat) (l1:List Int) (v:Value) (rules:List Ru) (vs:Value) (syms:List Sy) (wr:World):Prop where
 b0:Blk wr w.heap.size 24 #[.int .i64 0,.int .i64 0,.int .i64 0,.slice none 0 0]
 b1:Blk wr (w.heap.size+1) 118 #[.slice A m1 c1]
 b2:Blk wr (w.heap.size+1+1) 24 #[.int .i64 (t:Int),.int .i64 (n:Int),.int .i64 (st:Int),v]
 b3:Blk wr br 74 #[.int .i64 (left:Int),vs]
 hbr:w.heap.size+3≤br
 ints:Ints w A m1 c1 l1
 le:m1≤m
 own:Own RuE 74 (fun b=>w.heap.size+3≤b∧b < br) wr (w.heap.size+3) v rules.length rules
 vlt:∀ g,v.ownBlock=some g→g < br
 sown:Own SyE 69 (fun b=>br+1≤b) wr (br+1) vs syms.length syms
 bel:Below w.heap.size w wr
 size:br+1≤wr.heap.size
 left:left < n
 nodup:rules.Nodup
 ok:∀ r∈rules,RuOk t n r
 sok:∀ s∈syms,if s.1 then s.2 < t else s.2 < n
theorem GRel.start {w:World} {t n st m:Nat} {A:Option Addr} {m1 c1:Nat} {l1:List Int} (hI:Ints w A m1 c1 l1) (hm:m1≤m) :
 GRel w t n st m A m1 c1 l1 (.slice none 0 0) [] (((w.alloc (.cells #[.int .i64 0,.int .i64 0,.int .i64 0,.slice none 0 0] 24)).alloc (.cells #[.slice A m1 c1] 118)).alloc (.cells #[.int .i64 (t:Int),.int .i64 (n:Int),.int .i64 (st:Int),.slice none 0 0] 24)) where
 b0:=((Blk.new w _ _).al _).al _
 b1:=by have:=(Blk.new (w.alloc (.cells #[.int .i64 0,.int .i64 0,.int .i64 0,.slice none 0 0] 24)) 118 #[.slice A m1 c1]).al (.cells #[.int .i64 (t:Int),.int .i64 (n:Int),.int .i64 (st:Int),.slice none 0 0] 24); simpa using this
 b2:=by have:=(Blk.new ((w.alloc (.cells #[.int .i64 0,.int .i64 0,.int .i64 0,.slice none 0 0] 24)).alloc (.cells #[.slice A m1 c1] 118)) 24 #[.int .i64 (t:Int),.int .i64 (n:Int),.int .i64 (st:Int),.slice none 0 0]); simpa using this
 ints:=hI
 le:=hm
 own:=Own.nil _ _
 bel:=(((Below.refl _ _).al _).al _).al _
 size:=by simp
 nodup:=List.nodup_nil
 ok:=fun r hr=>by cases hr
theorem GRel.rule {w wr:World} {t n st m left:Nat} {A A2:Option Addr} {m1 c1 m2 c2:Nat} {l1 l2:List Int} {v:Value} {rules:List Ru} (h:GRel w t n st m A m1 c1 l1 v rules wr)
 (hI:Ints w A2 m2 c2 l2) (hm:m2≤m1) (hl:left < n) :
 IRel w t n st m left wr.heap.size A2 m2 c2 l2 v rules (.slice none 0 0) [] ((wr.setCell ⟨w.heap.size+1,0,none⟩ (.slice A2 m2 c2)).alloc (.cells #[.int .i64 (left:Int),.slice none 0 0] 74)) where
 b0:=(h.b0.far (by simp) _).al _
 b1:=by have:=(h.b1.set_ 0 (.slice A2 m2 c2)).al (.cells #[.int .i64 (left:Int),.slice none 0 0] 74); simpa using this
 b2:=(h.b2.far (by simp) _).al _
 b3:=by have:=Blk.new (wr.setCell ⟨w.heap.size+1,0,none⟩ (.slice A2 m2 c2)) 74 #[.int .i64 (left:Int),.slice none 0 0]; simpa using this
 hbr:=h.size
 ints:=hI
 le:=Nat.le_trans hm h.le
 own:=((h.own.setCell (p:=⟨w.heap.size+1,0,none⟩) _ (fun b hb=>by simp; omega) (by simp)).mono (fun b hb hk=>⟨hk,by simpa using hb⟩)).al _
 vlt:=fun g hg=>(h.own.lt g hg).2
 sown:=Own.nil _ _
 bel:=(h.bel.setCell (by simp) _).al _
 size:=by simp
 left:=hl
 nodup:=h.nodup
 ok:=h.ok
 sok:=fun s hs=>by cases hs
theorem IRel.next {w wr:World} {t n st m left br:Nat} {A A2:Option Addr} {m1 c1 m2 c2:Nat} {l1 l2:List Int} {v vs:Value} {rules:List Ru} {syms:List Sy} (h:IRel w t n st m left br A m1 c1 l1 v rules vs syms wr)
 (hI:Ints w A2 m2 c2 l2) (hm:m2≤m1):IRel w t n st m left br A2 m2 c2 l2 v rules vs syms (wr.setCell ⟨w.heap.size+1,0,none⟩ (.slice A2 m2 c2)) where
 b0:=h.b0.far (by simp) _
 b1:=by have:=h.b1.set_ 0 (.slice A2 m2 c2); simpa using this
 b2:=h.b2.far (by simp) _
 b3:=h.b3.far (by have:=h.hbr; simp; omega) _
 hbr:=h.hbr
 ints:=hI
 le:=Nat.le_trans hm h.le
 own:=h.own.setCell _ (fun b hb=>by simp; omega) (by simp)
 vlt:=h.vlt
 sown:=h.sown.setCell _ (fun b hb=>by have:=h.hbr; simp; omega) (by have:=h.hbr; simp; omega)
 bel:=h.bel.setCell (by simp) _
 size:=by simpa using h.size
 left:=h.left
 nodup:=h.nodup
 ok:=h.ok
 sok:=h.sok
theorem IRel.via {w wr wa:World} {t n st m left br:Nat} {A:Option Addr} {m1 c1:Nat} {l1:List Int} {v vs:Value} {rules:List Ru} {syms:List Sy} (h:IRel w t n st m left br A m1 c1 l1 v rules vs syms wr)
 (hb:Below wr.heap.size wr wa):IRel w t n st m left br A m1 c1 l1 v rules vs syms wa where
 b0:=h.b0.via hb
 b1:=h.b1.via hb
 b2:=h.b2.via hb
 b3:=h.b3.via hb
 hbr:=h.hbr
 ints:=h.ints
 le:=h.le
 own:=h.own.via hb
 vlt:=h.vlt
 sown:=h.sown.via hb
 bel:=h.bel.via hb
 size:=Nat.le_trans h.size hb.size
 left:=h.left
 nodup:=h.nodup
 ok:=h.ok
 sok:=h.sok
theorem IRel.al {w wr:World} {t n st m left br:Nat} {A:Option Addr} {m1 c1:Nat} {l1:List Int} {v vs:Value} {rules:List Ru} {syms:List Sy} (h:IRel w t n st m left br A m1 c1 l1 v rules vs syms wr)
 (o:Obj):IRel w t n st m left br A m1 c1 l1 v rules vs syms (wr.alloc o):=h.via ((Below.refl wr.heap.size wr).alloc (Nat.le_refl _) o)
theorem IRel.dr {w wr:World} {t n st m left br:Nat} {A:Option Addr} {m1 c1:Nat} {l1:List Int} {v vs:Value} {rules:List Ru} {syms:List Sy} (h:IRel w t n st m left br A m1 c1 l1 v rules vs syms wr) :
 IRel w t n st m left br A m1 c1 l1 v rules vs syms wr.drew:=h.via ((Below.refl wr.heap.size wr).drew)
theorem IRel.push {w wr w1:World} {t n st m left br:Nat} {A:Option Addr} {m1 c1:Nat} {l1:List Int} {v vs vs':Value} {rules:List Ru} {syms:List Sy} {s:Sy} (h:IRel w t n st m left br A m1 c1 l1 v rules vs syms wr)
 (ho:Own SyE 69 (fun b=>br+1≤b) w1 (br+1) vs' (syms.length+1) (syms++[s])) (hg:wr.grownBy w1 vs.ownBlock) (hs:if s.1 then s.2 < t else s.2 < n) :
 IRel w t n st m left br A m1 c1 l1 v rules vs' (syms++[s]) (w1.setCell ⟨br,1,none⟩ vs'):=by
 have hne:∀ j,j≤br→some j≠vs.ownBlock:=fun j hj e=>by have:=(h.sown.lt j e.symm).1; omega
 have hb:=h.hbr;have hsz:=h.size;refine ⟨?_,?_,?_,?_,hb,h.ints,h.le,?_,h.vlt,?_,?_,?_,h.left,h.nodup,h.ok,?_⟩
 ·exact (h.b0.grown hg (hne _ (by omega))).far (by simp; omega) _
 ·exact (h.b1.grown hg (hne _ (by omega))).far (by simp; omega) _
 ·exact (h.b2.grown hg (hne _ (by omega))).far (by simp; omega) _
 ·have:=(h.b3.grown hg (hne _ (by omega))).set_ 1 vs'; simpa using this
 ·have ha:Agr (fun b=>(w.heap.size+3≤b∧b < br)∨some b=v.ownBlock) wr (w1.setCell ⟨br,1,none⟩ vs'):=by
   refine (Agr.grown hg fun b hb'=>?_).trans (Agr.setCell _ fun b hb'=>?_)
   ·rcases hb' with hb' | hb'
    ·exact hne b (by omega)
    ·exact hne b (by have:=h.vlt b hb'.symm; omega)
   ·show b≠br
    rcases hb' with hb' | hb'
    ·omega
    ·have:=h.vlt b hb'.symm; omega
  exact h.own.agr ha
 ·rw [List.length_append]; exact ho.setCell _ (fun b hb'=>by simp; omega) (by simp)
 ·refine (h.bel.grown hg (by omega) fun k hk=>?_).setCell (by simp; omega) _;have:=(h.sown.lt k hk).1; omega
 ·have:=hg.size; simp; omega
 ·intro s' hs'
  rcases List.mem_append.1 hs' with h1 | h1
  ·exact h.sok s' h1
  ·rw [List.mem_singleton.1 h1]; exact hs
theorem IRel.drop {w wr:World} {t n st m left br:Nat} {A:Option Addr} {m1 c1:Nat} {l1:List Int} {v vs:Value} {rules:List Ru} {syms:List Sy} (h:IRel w t n st m left br A m1 c1 l1 v rules vs syms wr) :
 GRel w t n st m A m1 c1 l1 v rules wr :=
 ⟨h.b0,h.b1,h.b2,h.ints,h.le,h.own.mono fun b _ hk=>hk.1,h.bel,by have:=h.size; have:=h.hbr; omega,h.nodup,h.ok⟩
theorem IRel.add {w wr w1:World} {t n st m left br:Nat} {A:Option Addr} {m1 c1:Nat} {l1:List Int} {v v' vs:Value} {rules:List Ru} {syms:List Sy} (h:IRel w t n st m left br A m1 c1 l1 v rules vs syms wr)
 (ho:Own RuE 74 (fun b=>w.heap.size+3≤b) w1 (w.heap.size+3) v' (rules.length+1) (rules++[(left,syms)])) (hg:wr.grownBy w1 v.ownBlock) (hnew:(left,syms)∉rules) (hl:syms.length≤3) :
 GRel w t n st m A m1 c1 l1 v' (rules++[(left,syms)]) (w1.setCell ⟨w.heap.size+1+1,3,none⟩ v'):=by
 have hne:∀ j,j < w.heap.size+3→some j≠v.ownBlock:=fun j hj e=>by have:=(h.own.lt j e.symm).1; omega
 have hb:=h.hbr;have hsz:=h.size;refine ⟨?_,?_,?_,h.ints,h.le,?_,?_,?_,?_,?_⟩
 ·exact (h.b0.grown hg (hne _ (by omega))).far (by simp; omega) _
 ·exact (h.b1.grown hg (hne _ (by omega))).far (by simp) _
 ·have:=(h.b2.grown hg (hne _ (by omega))).set_ 3 v'; simpa using this
 ·rw [List.length_append]; exact ho.setCell _ (fun b hb'=>by simp; omega) (by simp)
 ·refine (h.bel.grown hg (by omega) fun k hk=>?_).setCell (by simp; omega) _;have:=(h.own.lt k hk).1; omega
 ·have:=hg.size; simp; omega
 ·rw [List.nodup_append];refine ⟨h.nodup,by simp,fun a ha b hb'=>?_⟩;rw [List.mem_singleton.1 hb'];rintro rfl;exact hnew ha
 ·intro r hr
  rcases List.mem_append.1 hr with h1 | h1
  ·exact h.ok r h1
  ·rw [List.mem_singleton.1 h1]; exact ⟨h.left,hl,h.sok⟩
structure MadeG (g:Gr):Prop where
 terms:1≤g.terms∧g.terms≤3
 nons:1≤g.nons∧g.nons≤4
 start:g.start < g.nons
 count:g.rules.length≤8
 nodup:g.rules.Nodup
 ok:∀ r∈g.rules,RuOk g.terms g.nons r
def GramP (w:World) (e:Ending) (w':World):Prop :=
 ∃ (g:Gr) (A:Option Addr) (n c:Nat),e=.returned (grVal g A n c)∧MadeG g∧Sl RuE (fun b=>w.heap.size≤b) w' A n c g.rules∧Below w.heap.size w w'
set_option maxRecDepth 100000 in
set_option maxHeartbeats 4000000 in
theorem grammar_c (A:Option Addr) (m c:Nat) (ls:List Int) (w:World) (h:Ints w A m c ls) :
 Calls Tryz.prog 23 #[.slice A m c] w (GramP w):=by
 go_enter Tryz.func23,Tryz.ntmps23;go_wp2_with fail;have B0:=(Blk.new w 24 #[.int .i64 0,.int .i64 0,.int .i64 0,.slice none 0 0]).al (.cells #[.slice A m c] 118);have B1:=Blk.new (w.alloc (.cells #[.int .i64 0,.int .i64 0,.int .i64 0,.slice none 0 0] 24)) 118 #[.slice A m c];have hB:=((Below.refl w.heap.size w).al (.cells #[.int .i64 0,.int .i64 0,.int .i64 0,.slice none 0 0] 24)).al (.cells #[.slice A m c] 118);have hsz:((w.alloc (.cells #[.int .i64 0,.int .i64 0,.int .i64 0,.slice none 0 0] 24)).alloc (.cells #[.slice A m c] 118)).heap.size=w.heap.size+1+1:=(by simp);simp only [World.size_alloc] at B1;generalize (w.alloc (.cells #[.int .i64 0,.int .i64 0,.int .i64 0,.slice none 0 0] 24)).alloc (.cells #[.slice A m c] 118)=W at *;refine (snext_n w W (w.heap.size+1) 3 _ rfl A m c ls h hB (B1.cell 0) (B1.frozen 0) (by omega) (by omega)).mono ?_;rintro e w' ⟨v1,A1,m1,c1,l1,rfl,hv1,hm1,rfl,hI1⟩;replace B0:=B0.far (p:=⟨w.heap.size+1,0,none⟩) (by simp) (.slice A1 m1 c1);replace B1:=B1.set1 (.slice A1 m1 c1);replace hB:=hB.setCell (p:=⟨w.heap.size+1,0,none⟩) (by simp) (.slice A1 m1 c1);replace hsz:(W.setCell ⟨w.heap.size+1,0,none⟩ (.slice A1 m1 c1)).heap.size=w.heap.size+1+1:=(by simp [hsz]);generalize W.setCell ⟨w.heap.size+1,0,none⟩ (.slice A1 m1 c1)=W1 at *;clear h;go_wp2_with fail;refine (snext_n w W1 (w.heap.size+1) 4 _ rfl A1 m1 c1 l1 hI1 hB (B1.cell 0) (B1.frozen 0) (by omega) (by omega)).mono ?_;rintro e w' ⟨v2,A2,m2,c2,l2,rfl,hv2,hm2,rfl,hI2⟩;replace B0:=B0.far (p:=⟨w.heap.size+1,0,none⟩) (by simp) (.slice A2 m2 c2);replace B1:=B1.set1 (.slice A2 m2 c2);replace hB:=hB.setCell (p:=⟨w.heap.size+1,0,none⟩) (by simp) (.slice A2 m2 c2);replace hsz:(W1.setCell ⟨w.heap.size+1,0,none⟩ (.slice A2 m2 c2)).heap.size=w.heap.size+1+1:=(by simp [hsz]);generalize W1.setCell ⟨w.heap.size+1,0,none⟩ (.slice A2 m2 c2)=W2 at *;clear hI1;go_wp2_with fail;have e1:(1:Int)+(v1:Int)=((v1+1:Nat):Int):=(by omega);have e2:(1:Int)+(v2:Int)=((v2+1:Nat):Int):=(by omega);rw [e1,e2];clear e1 e2;have ht1:v1+1≤3:=(by omega);have hn1:v2+1≤4:=(by omega);have ht0:1≤v1+1:=(by omega);have hn0:1≤v2+1:=(by omega);clear hv1 hv2;generalize v1+1=t at *;generalize v2+1=n at *;have B2:=Blk.new W2 24 #[.int .i64 (t:Int),.int .i64 (n:Int),.int .i64 0,.slice none 0 0];replace B0:=B0.al (.cells #[.int .i64 (t:Int),.int .i64 (n:Int),.int .i64 0,.slice none 0 0] 24);replace B1:=B1.al (.cells #[.int .i64 (t:Int),.int .i64 (n:Int),.int .i64 0,.slice none 0 0] 24);replace hB:=hB.al (.cells #[.int .i64 (t:Int),.int .i64 (n:Int),.int .i64 0,.slice none 0 0] 24);rw [hsz] at B2;replace hsz:(W2.alloc (.cells #[.int .i64 (t:Int),.int .i64 (n:Int),.int .i64 0,.slice none 0 0] 24)).heap.size=w.heap.size+3:=(by simp [hsz]);generalize W2.alloc (.cells #[.int .i64 (t:Int),.int .i64 (n:Int),.int .i64 0,.slice none 0 0] 24)=W3 at *;refine (snext_n w W3 (w.heap.size+1) n _ rfl A2 m2 c2 l2 hI2 hB (B1.cell 0) (B1.frozen 0) (by omega) (by omega)).mono ?_;rintro e w' ⟨st,A3,m3,c3,l3,rfl,hst,hm3,rfl,hI3⟩;replace B0:=B0.far (p:=⟨w.heap.size+1,0,none⟩) (by simp) (.slice A3 m3 c3);replace B2:=B2.far (p:=⟨w.heap.size+1,0,none⟩) (by simp) (.slice A3 m3 c3);replace B1:=B1.set1 (.slice A3 m3 c3);replace hB:=hB.setCell (p:=⟨w.heap.size+1,0,none⟩) (by simp) (.slice A3 m3 c3);replace hsz:(W3.setCell ⟨w.heap.size+1,0,none⟩ (.slice A3 m3 c3)).heap.size=w.heap.size+3:=(by simp [hsz]);generalize W3.setCell ⟨w.heap.size+1,0,none⟩ (.slice A3 m3 c3)=W4 at *;clear hI2;have cB0:=B0.cell;have fB0:=B0.frozen;have lB0:=B0.lt;have cB1:=B1.cell;have fB1:=B1.frozen;have lB1:=B1.lt;have cB2:=B2.cell;have fB2:=B2.frozen;have lB2:=B2.lt;go_wp2_with fail;clear cB0 fB0 lB0 cB1 fB1 lB1 cB2 fB2 lB2;replace B0:=B0.far (p:=⟨w.heap.size+1+1,2,none⟩) (by simp; omega) (.int .i64 (st:Int));replace B1:=B1.far (p:=⟨w.heap.size+1+1,2,none⟩) (by simp) (.int .i64 (st:Int));replace B2:Blk (W4.setCell ⟨w.heap.size+1+1,2,none⟩ (.int .i64 (st:Int))) (w.heap.size+1+1) 24 #[.int .i64 (t:Int),.int .i64 (n:Int),.int .i64 (st:Int),.slice none 0 0]:=(by have:=B2.set_ 2 (.int .i64 (st:Int)); simpa using this);replace hB:=hB.setCell (p:=⟨w.heap.size+1+1,2,none⟩) (by simp; omega) (.int .i64 (st:Int));replace hsz:(W4.setCell ⟨w.heap.size+1+1,2,none⟩ (.int .i64 (st:Int))).heap.size=w.heap.size+3:=(by simp [hsz]);generalize W4.setCell ⟨w.heap.size+1+1,2,none⟩ (.int .i64 (st:Int))=W5 at *;refine (snext_n w W5 (w.heap.size+1) 8 _ rfl A3 m3 c3 l3 hI3 hB (B1.cell 0) (B1.frozen 0) (by omega) (by omega)).mono ?_;rintro e w' ⟨q,A4,m4,c4,l4,rfl,hq,hm4,rfl,hI4⟩;replace B0:=B0.far (p:=⟨w.heap.size+1,0,none⟩) (by simp) (.slice A4 m4 c4);replace B2:=B2.far (p:=⟨w.heap.size+1,0,none⟩) (by simp) (.slice A4 m4 c4);replace B1:=B1.set1 (.slice A4 m4 c4);replace hB:=hB.setCell (p:=⟨w.heap.size+1,0,none⟩) (by simp) (.slice A4 m4 c4);replace hsz:(W5.setCell ⟨w.heap.size+1,0,none⟩ (.slice A4 m4 c4)).heap.size=w.heap.size+3:=(by simp [hsz]);generalize W5.setCell ⟨w.heap.size+1,0,none⟩ (.slice A4 m4 c4)=W6 at *;clear hI3;go_wp2_with fail;have eq1:(1:Int)+(q:Int)=((q+1:Nat):Int):=(by omega);have hq1:q+1≤8:=(by omega);have hG:GRel w t n st m4 A4 m4 c4 l4 (.slice none 0 0) [] W6:=⟨B0,B1,B2,hI4,Nat.le_refl _,Own.nil _ _,hB,by omega,List.nodup_nil,fun r hr=>by cases hr⟩;rw [eq1];clear eq1 hq B0 B1 B2 hB hsz hI4;generalize q+1=Q at *
 go_loopw [24] (fun i wr=>∃ (k:Nat) (A:Option Addr) (m1 c1:Nat) (l1:List Int) (v:Value) (rules:List Ru),i=.int .i64 k∧k≤Q∧rules.length≤k∧GRel w t n st m4 A m1 c1 l1 v rules wr) (fun i _=>Q - (intOf i).toNat)
 case atStart=>exact ⟨0,_,_,_,_,_,_,rfl,Nat.zero_le _,Nat.zero_le _,hG⟩
 case round =>
  obtain ⟨k,A5,m5,c5,l5,v,rules,rfl,hk,hrk,hr⟩:=hrel;clear hG;have B0:=hr.b0;have B1:=hr.b1;have B2:=hr.b2
  by_cases hlt:k < Q
  ·have cB0:=B0.cell;have fB0:=B0.frozen;have lB0:=B0.lt;have cB1:=B1.cell;have fB1:=B1.frozen;have lB1:=B1.lt;have cB2:=B2.cell;have fB2:=B2.frozen;have lB2:=B2.lt;go_wp2_with fail;clear cB0 fB0 lB0 cB1 fB1 lB1 cB2 fB2 lB2;refine (snext_n w wr (w.heap.size+1) n _ rfl A5 m5 c5 l5 hr.ints hr.bel (B1.cell 0) (B1.frozen 0) (by omega) (by omega)).mono ?_;rintro e w' ⟨left,A6,m6,c6,l6,rfl,hlf,hm6,rfl,hI6⟩;have hR:=GRel.rule hr hI6 hm6 hlf;have hbr:w.heap.size+3≤wr.heap.size:=hr.size;clear hr B0 B1 B2 hI6 hm6;go_wp2_with fail;obtain ⟨wa,hwa⟩:∃ wa:World,wa=(wr.setCell ⟨w.heap.size+1,0,none⟩ (.slice A6 m6 c6)).alloc (.cells #[.int .i64 (left:Int),.slice none 0 0] 74):=⟨_,rfl⟩;rw [← hwa] at hR ⊢;clear hwa;generalize wr.heap.size=br at *;refine (snext_n w wa (w.heap.size+1) 4 _ rfl A6 m6 c6 l6 hR.ints hR.bel (hR.b1.cell 0) (hR.b1.frozen 0) (by omega) (by omega)).mono ?_;rintro e w' ⟨p,A7,m7,c7,l7,rfl,hp,hm7,rfl,hI7⟩;replace hR:=hR.next hI7 hm7;generalize wa.setCell ⟨w.heap.size+1,0,none⟩ (.slice A7 m7 c7)=wa at *;clear hI7 hm7;go_wp2_with fail
   go_loopw [33] (fun i wr=>∃ (j:Nat) (A:Option Addr) (m1 c1:Nat) (l1:List Int) (vs:Value) (syms:List Sy),i=.int .i64 j∧j≤p∧syms.length≤j∧IRel w t n st m4 left br A m1 c1 l1 v rules vs syms wr) (fun i _=>p - (intOf i).toNat)
   case atStart=>exact ⟨0,_,_,_,_,_,_,rfl,Nat.zero_le _,Nat.zero_le _,hR⟩
   case round =>
    obtain ⟨j,A8,m8,c8,l8,vs,syms,rfl,hj,hsj,hi⟩:=hrel;clear hR
    by_cases hjl:j < p
    ·go_wp2_with fail;refine (snext_n w _ (w.heap.size+1) 2 _ rfl A8 m8 c8 l8 hi.ints hi.bel (hi.b1.cell 0) (hi.b1.frozen 0) (by omega) (by omega)).mono ?_;rintro e w' ⟨z,A9,m9,c9,l9,rfl,hz,hm9,rfl,hI9⟩;replace hi:=hi.next hI9 hm9;clear hI9 hm9;generalize wr.setCell ⟨w.heap.size+1,0,none⟩ (.slice A9 m9 c9)=W0 at *;obtain ⟨Av,cv,rfl,-⟩:=hi.sown.form;have H:=Lib.hid hi;have B1:=hi.b1;have B2:=hi.b2;have B3:=hi.b3;clear hi
     by_cases hz0:z=0
     ·subst hz0;have cB1:=B1.cell;have fB1:=B1.frozen;have lB1:=B1.lt;have cB2:=B2.cell;have fB2:=B2.frozen;have lB2:=B2.lt;have cB3:=B3.cell;have fB3:=B3.frozen;have lB3:=B3.lt;go_wp2_with fail
      go_region_law (first
       | (go_simp; go_at_call 56; refine (snext_n w _ (w.heap.size+1) t _ rfl A9 m9 c9 l9 H.out.ints H.out.bel.drew (H.out.b1.cell 0) (H.out.b1.frozen 0) (by omega) (by omega)).mono ?_; rintro e w' ⟨y,A10,m10,c10,l10,rfl,hy,hm10,rfl,hI10⟩; dsimp only)
       | (have HA:=((H.out.dr).next hI10 hm10).al (.cells #[.bool true,.int .i64 (y:Int)] 69)
          refine step_append_sy _ rfl (.tmp 39) (.tmp 45) rfl (fun b=>br+1≤b) (br+1) (.slice Av syms.length cv) syms.length syms rfl HA.sown W0.heap.size (true,y) rfl (Blk.newAt (W0.drew.setCell ⟨w.heap.size+1,0,none⟩ (.slice A10 m10 c10)) 69 #[.bool true,.int .i64 (y:Int)] _ (by simp)) (by omega) HA.size ?_;intro Av1 cv1 w1 ho1 hg1 hat1;have B3g:=HA.b3.grown hg1 (fun e=>by have:=(HA.sown.lt br e.symm).1; omega);have c3g:=B3g.cell 1
          have f3g:=B3g.frozen))
      all_goals
       have HP:=Lib.hid (IRel.push (s:=(true,y)) HA ho1 hg1 (by simpa using hy));clear HA;go_wp2_with fail;exact ⟨⟨j+1,_,_,_,_,_,_,by go_num,by omega,by rw [List.length_append,List.length_singleton]; omega,HP.out⟩,by simp [intOf]; omega⟩
     ·have hz1:((z:Int)==0)=false:=(by simp; omega);have cB1:=B1.cell;have fB1:=B1.frozen;have lB1:=B1.lt;have cB2:=B2.cell;have fB2:=B2.frozen;have lB2:=B2.lt;have cB3:=B3.cell;have fB3:=B3.frozen;have lB3:=B3.lt;go_wp2_with fail
      go_region_law (first
       | (go_simp; go_at_call 56; refine (snext_n w _ (w.heap.size+1) n _ rfl A9 m9 c9 l9 H.out.ints H.out.bel.drew (H.out.b1.cell 0) (H.out.b1.frozen 0) (by omega) (by omega)).mono ?_; rintro e w' ⟨y,A10,m10,c10,l10,rfl,hy,hm10,rfl,hI10⟩; dsimp only)
       | (have HA:=((H.out.dr).next hI10 hm10).al (.cells #[.bool false,.int .i64 (y:Int)] 69)
          refine step_append_sy _ rfl (.tmp 49) (.tmp 55) rfl (fun b=>br+1≤b) (br+1) (.slice Av syms.length cv) syms.length syms rfl HA.sown W0.heap.size (false,y) rfl (Blk.newAt (W0.drew.setCell ⟨w.heap.size+1,0,none⟩ (.slice A10 m10 c10)) 69 #[.bool false,.int .i64 (y:Int)] _ (by simp)) (by omega) HA.size ?_;intro Av1 cv1 w1 ho1 hg1 hat1;have B3g:=HA.b3.grown hg1 (fun e=>by have:=(HA.sown.lt br e.symm).1; omega);have c3g:=B3g.cell 1
          have f3g:=B3g.frozen))
      all_goals
       have HP:=Lib.hid (IRel.push (s:=(false,y)) HA ho1 hg1 (by simpa using hy));clear HA;go_wp2_with fail;exact ⟨⟨j+1,_,_,_,_,_,_,by go_num,by omega,by rw [List.length_append,List.length_singleton]; omega,HP.out⟩,by simp [intOf]; omega⟩
    ·obtain ⟨Av,cv,rfl,-⟩:=hi.sown.form;obtain ⟨Ar,cr,rfl,-⟩:=hi.own.form;have hsr:=hi.own.toSl (ok':=fun b=>w.heap.size+3≤b) (fun b _ hb=>hb.1) (fun b hb=>hb);have hss:=hi.sown.toSl (ok':=fun b=>br+1≤b) (fun b _ hb=>hb) (fun b hb=>hb);have H:=Lib.hid hi;have B2:=hi.b2;have B3:=hi.b3;clear hi;have cB2:=B2.cell;have fB2:=B2.frozen;have lB2:=B2.lt;have cB3:=B3.cell;have fB3:=B3.frozen;have lB3:=B3.lt;go_wp2_with fail;clear cB2 fB2 lB2 cB3 fB3 lB3;refine (has_c (fun b=>w.heap.size+3≤b) (fun b=>br+1≤b) Ar Av rules.length cr syms.length cv rules (left,syms) wr hsr hss (by omega) (by omega)).mono ?_;rintro e w' ⟨rfl,hb1⟩;clear hsr hss B2 B3;have hi:=H.out.via hb1;clear H hb1
     by_cases hin:(left,syms)∈rules
     ·have hd:decide ((left,syms)∈rules)=true:=(by simpa using hin);rw [hd];clear hin hd;have H:=Lib.hid hi.drop;clear hi;go_wp2_with fail;exact ⟨⟨k+1,_,_,_,_,_,_,by go_num,by omega,by omega,H.out⟩,by simp [intOf]; omega⟩
     ·have hd:decide ((left,syms)∈rules)=false:=(by simpa using hin);rw [hd];have HN:=Lib.hid hin;clear hin hd;have B2:=hi.b2;have B3:=hi.b3;have H:=Lib.hid hi;clear hi;clear B2 B3;have HA:=H.out.al (.cells #[.int .i64 (left:Int),.slice Av syms.length cv] 74);have hown:Own RuE 74 (fun b=>w.heap.size+3≤b) (w'.alloc (.cells #[.int .i64 (left:Int),.slice Av syms.length cv] 74)) (w.heap.size+3) (.slice Ar rules.length cr) rules.length rules:=HA.own.mono fun b _ hb=>hb.1
      have hrel:Sl SyE (fun b=>w.heap.size+3≤b∧some b≠Value.ownBlock (.slice Ar rules.length cr)) (w'.alloc (.cells #[.int .i64 (left:Int),.slice Av syms.length cv] 74)) Av syms.length cv syms :=
       HA.sown.toSl (fun b _ hb=>⟨by omega,fun e=>by have:=HA.vlt b e.symm; omega⟩) (fun b hb=>⟨by omega,fun e=>by have:=HA.vlt b e.symm; omega⟩)
      have hsz:w.heap.size+3≤(w'.alloc (.cells #[.int .i64 (left:Int),.slice Av syms.length cv] 74)).heap.size:=(by have:=HA.size; omega);have HO:=Lib.hid hown;have HL:=Lib.hid hrel;have HA':=Lib.hid HA;have B2:=H.out.b2;have B3:=H.out.b3;have B2a:=HA.b2;clear HA hown hrel;have cB2:=B2.cell;have fB2:=B2.frozen;have lB2:=B2.lt;have cB3:=B3.cell;have fB3:=B3.frozen;have lB3:=B3.lt;go_wp2_with (at_builtin; refine wpList_append_ru _ rfl (.tmp 65) (.tmp 67) rfl (fun b=>w.heap.size+3≤b) (w.heap.size+3) (.slice Ar rules.length cr) rules.length rules rfl HO.out w'.heap.size (left,syms) Av syms.length cv rfl (Blk.new w' 74 #[.int .i64 (left:Int),.slice Av syms.length cv]) HL.out (by omega) hsz ?_; intro Av1 cv1 w1 ho1 hg1 hat1; have B2g:=B2a.grown hg1 (fun e=>by have:=(HO.out.lt _ e.symm).1; omega); have c2g:=B2g.cell; have f2g:=B2g.frozen);exact ⟨⟨k+1,_,_,_,_,_,_,by go_num,by omega,by rw [List.length_append,List.length_singleton]; omega,HA'.out.add ho1 hg1 HN.out (by omega)⟩,by simp [intOf]; omega⟩
  ·obtain ⟨Ar,cr,rfl,-⟩:=hr.own.form;have H:=Lib.hid hr;clear hr B1;have cB0:=B0.cell;have fB0:=B0.frozen;have lB0:=B0.lt;have cB2:=B2.cell;have fB2:=B2.frozen;have lB2:=B2.lt;go_wp2_with fail;refine bodyPost_ret (v:=grVal ⟨t,n,st,rules⟩ Ar rules.length cr) (by simp [results,Tryz.results23,go_sem,grVal,cB0]) rfl ⟨⟨t,n,st,rules⟩,Ar,rules.length,cr,rfl,?_,?_,?_⟩
   ·exact ⟨⟨ht0,ht1⟩,⟨hn0,hn1⟩,hst,by show rules.length≤8; omega,H.out.nodup,H.out.ok⟩
   ·have ho:=(((H.out.own.setCell (p:=⟨w.heap.size,0,none⟩) (.int .i64 (t:Int)) (fun b hb=>by show b≠w.heap.size; omega) (by show w.heap.size < _; omega)).setCell (p:=⟨w.heap.size,1,none⟩) (.int .i64 (n:Int)) (fun b hb=>by show b≠w.heap.size; omega) (by show w.heap.size < _; omega)).setCell (p:=⟨w.heap.size,2,none⟩) (.int .i64 (st:Int)) (fun b hb=>by show b≠w.heap.size; omega) (by show w.heap.size < _; omega)).setCell (p:=⟨w.heap.size,3,none⟩) (.slice Ar rules.length cr) (fun b hb=>by show b≠w.heap.size; omega) (by show w.heap.size < _; omega);exact ho.toSl (fun b _ hb=>by omega) (fun b hb=>by omega)
   ·exact (((H.out.bel.setCell (by simp) _).setCell (by simp) _).setCell (by simp) _).setCell (by simp) _
end Go.Proofs.YtfcihnpmeabacaaGreatDoor
namespace Go.Proofs.YtfcihnpmeabacaaGreatDoor
open Go.RowKit
abbrev Ky:=Sy×Nat×Nat
section
variable (D:Ky→Bool)
def someF:List Sy→Nat→Nat→Bool
 | [],i,j=>decide (i=j)
 | s::l,i,j=>(List.range (j+1 - i)).any fun q=>D (s,i,i+q)&&someF l (i+q) j
def waysF:List Sy→Nat→Nat→List (List Ky)
 | [],i,j=>if i=j then [[]] else []
 | s::l,i,j=>(List.range (j+1 - i)).flatMap fun q=>if (D (s,i,i+q)&&someF D l (i+q) j)=true then (waysF l (i+q) j).map ((s,i,i+q)::·) else []
def packN (R:List Ru) (k:Ky) (n:Nat):List (Nat×List Ky):=match R[n]? with
 | some u=>if u.1=k.1.2∧k.1.1=false then (waysF D u.2 k.2.1 k.2.2).map fun p=>(n,p) else []
 | none=>[]
def packT (R:List Ru) (k:Ky) (m:Nat):List (Nat×List Ky):=(List.range m).flatMap (packN D R k)
def packsF (R:List Ru) (k:Ky):List (Nat×List Ky):=packT D R k R.length
inductive RchK (R:List Ru) (root:Ky):Ky→Prop
 | root:RchK R root root
 | kid {k:Ky} {p:Nat×List Ky} {q:Ky}:RchK R root k→p∈packsF D R k→q∈p.2→RchK R root q
end
section
variable {D:Ky→Bool}
theorem some_iff {s:Sy} {l:List Sy} {i j:Nat}:someF D (s::l) i j=true↔∃ p,i≤p∧p≤j∧D (s,i,p)=true∧someF D l p j=true:=by
 simp only [someF,List.any_eq_true,List.mem_range,Bool.and_eq_true];constructor
 ·rintro ⟨q,hq,h1,h2⟩; exact ⟨i+q,by omega,by omega,h1,h2⟩
 ·rintro ⟨p,h1,h2,h3,h4⟩;refine ⟨p - i,by omega,?_⟩;rw [show i+(p - i)=p by omega]; exact ⟨h3,h4⟩
theorem ways_nil {l:List Sy} {i j:Nat} (h:someF D l i j=false):waysF D l i j=[]:=by
 cases l with
 | nil=>simp only [someF,decide_eq_false_iff_not] at h; simp [waysF,h]
 | cons s l =>
  simp only [waysF,List.flatMap_eq_nil_iff];intro q hq;simp only [someF,List.any_eq_false] at h;rw [if_neg (h q hq)]
inductive IsWay (D:Ky→Bool):List Sy→Nat→Nat→List Ky→Prop
 | nil (i:Nat):IsWay D [] i i []
 | cons {s:Sy} {l:List Sy} {i p j:Nat} {w:List Ky}:i≤p→p≤j→D (s,i,p)=true→IsWay D l p j w→IsWay D (s::l) i j ((s,i,p)::w)
theorem IsWay.some {l:List Sy} {i j:Nat} {w:List Ky} (h:IsWay D l i j w):someF D l i j=true:=by
 induction h with
 | nil i=>simp [someF]
 | cons h1 h2 h3 _ ih=>exact some_iff.2 ⟨_,h1,h2,h3,ih⟩
theorem IsWay.le {l:List Sy} {i j:Nat} {w:List Ky} (h:IsWay D l i j w):i≤j:=by
 induction h with
 | nil i=>exact Nat.le_refl _
 | cons h1 h2 _ _ _=>omega
theorem ways_iff {l:List Sy}:∀ {i j:Nat} {w:List Ky},w∈waysF D l i j↔IsWay D l i j w:=by
 induction l with
 | nil =>
  intro i j w;simp only [waysF];constructor
  ·intro h
   by_cases e:i=j
   ·rw [if_pos e] at h; simp at h; subst h; subst e; exact .nil i
   ·rw [if_neg e] at h; simp at h
  ·intro h; cases h; simp
 | cons s l ih =>
  intro i j w;simp only [waysF,List.mem_flatMap,List.mem_range];constructor
  ·rintro ⟨q,hq,h⟩
   by_cases e:(D (s,i,i+q)&&someF D l (i+q) j)=true
   ·rw [if_pos e] at h;obtain ⟨w',hw',rfl⟩:=List.mem_map.1 h;simp only [Bool.and_eq_true] at e;exact .cons (by omega) (by omega) e.1 (ih.1 hw')
   ·rw [if_neg e] at h; simp at h
  ·intro h;cases h with
   | @cons _ _ _ p _ w' h1 h2 h3 h4 =>
    refine ⟨p - i,by omega,?_⟩;rw [show i+(p - i)=p by omega,if_pos (by rw [h3,h4.some]; rfl)];exact List.mem_map.2 ⟨w',ih.2 h4,rfl⟩
theorem IsWay.mem {l:List Sy} {i j:Nat} {w:List Ky} (h:IsWay D l i j w):∀ q∈w,D q=true∧i≤q.2.1∧q.2.1≤q.2.2∧q.2.2≤j∧q.1∈l:=by
 induction h with
 | nil i=>intro q hq; simp at hq
 | cons h1 h2 h3 h4 ih =>
  intro q hq
  rcases List.mem_cons.1 hq with rfl | hq
  ·exact ⟨h3,Nat.le_refl _,h1,h2,by simp⟩
  ·obtain ⟨k1,k2,k3,k4,k5⟩:=ih q hq;exact ⟨k1,by omega,k3,k4,by simp [k5]⟩
theorem IsWay.len {l:List Sy} {i j:Nat} {w:List Ky} (h:IsWay D l i j w):w.length=l.length:=by
 induction h with
 | nil i=>rfl
 | cons _ _ _ _ ih=>simp [ih]
theorem packN_mem {R:List Ru} {k:Ky} {n:Nat} {p:Nat×List Ky} (h:p∈packN D R k n):p.1=n∧k.1.1=false∧∃ u,R[n]?=some u∧u.1=k.1.2∧IsWay D u.2 k.2.1 k.2.2 p.2:=by
 unfold packN at h;cases hu:R[n]? with
 | none=>rw [hu] at h; simp at h
 | some u =>
  rw [hu] at h;simp only at h
  by_cases e:u.1=k.1.2∧k.1.1=false
  ·rw [if_pos e] at h;obtain ⟨w,hw,rfl⟩:=List.mem_map.1 h;exact ⟨rfl,e.2,u,rfl,e.1,ways_iff.1 hw⟩
  ·rw [if_neg e] at h; simp at h
theorem packs_mem {R:List Ru} {k:Ky} {p:Nat×List Ky} (h:p∈packsF D R k):k.1.1=false∧∃ u,R[p.1]?=some u∧u.1=k.1.2∧IsWay D u.2 k.2.1 k.2.2 p.2:=by
 unfold packsF packT at h;obtain ⟨n,-,h⟩:=List.mem_flatMap.1 h;obtain ⟨rfl,h2,h3⟩:=packN_mem h;exact ⟨h2,h3⟩
theorem packs_mem2 {R:List Ru} {k:Ky} {n:Nat} {u:Ru} {w:List Ky} (h1:k.1.1=false) (h2:R[n]?=some u) (h3:u.1=k.1.2) (h4:IsWay D u.2 k.2.1 k.2.2 w):(n,w)∈packsF D R k:=by
 unfold packsF packT;refine List.mem_flatMap.2 ⟨n,List.mem_range.2 (List.getElem?_eq_some_iff.1 h2).1,?_⟩;unfold packN;rw [h2];simp only [h3,h1,and_self,if_true];exact List.mem_map.2 ⟨w,ways_iff.2 h4,rfl⟩
theorem packT_next (R:List Ru) (k:Ky) (m:Nat):packT D R k (m+1)=packT D R k m++packN D R k m:=by
 unfold packT; rw [List.range_succ,List.flatMap_append]; simp
def rkS (s:Sy):Nat:=if s.1 then s.2 else 100+s.2
def kyN (k:Ky):Nat:=(k.2.1*100+k.2.2)*1000+rkS k.1
def Ky.Ok (k:Ky):Prop:=k.2.1 < 100∧k.2.2 < 100∧k.1.2 < 100
theorem kyN_inj {a b:Ky} (ha:a.Ok) (hb:b.Ok) (h:kyN a=kyN b):a=b:=by
 obtain ⟨⟨ab,an⟩,ai,aj⟩:=a;obtain ⟨⟨bb,bn⟩,bi,bj⟩:=b;obtain ⟨h1,h2,h3⟩:=ha;obtain ⟨k1,k2,k3⟩:=hb;simp only at h1 h2 h3 k1 k2 k3;simp only [kyN,rkS] at h;cases ab <;> cases bb <;> simp only [Bool.false_eq_true,if_false,if_true] at h <;> simp only [Prod.mk.injEq,true_and,false_and,Bool.false_eq_true,Bool.true_eq_false] <;> omega
structure IsNds (D:Ky→Bool) (R:List Ru) (root:Ky) (L:List Ky):Prop where
 sorted:L.Pairwise fun a b=>kyN a < kyN b
 mem:∀ k,k∈L↔RchK D R root k
theorem IsNds.nodup {R:List Ru} {root:Ky} {L:List Ky} (h:IsNds D R root L):L.Nodup:=h.sorted.imp fun hab e=>by rw [e] at hab; omega
theorem IsNds.uniq {R:List Ru} {root:Ky} {L L':List Ky} (h:IsNds D R root L) (h':IsNds D R root L'):L=L':=by
 refine List.Perm.eq_of_pairwise (le:=fun a b=>kyN a < kyN b) (fun a b _ _ h1 h2=>by omega) h.sorted h'.sorted ?_;refine (List.perm_ext_iff_of_nodup h.nodup h'.nodup).2 fun k=>?_
 rw [h.mem,h'.mem]
def idxK (L:List Ky) (k:Ky):Nat:=L.idxOf k
theorem idxK_lt {L:List Ky} {k:Ky} (h:k∈L):idxK L k < L.length:=List.idxOf_lt_length_iff.2 h
theorem idxK_get {L:List Ky} {k:Ky} (h:k∈L):L[idxK L k]?=some k:=by
 unfold idxK;rw [List.getElem?_eq_getElem (List.idxOf_lt_length_iff.2 h),List.getElem_idxOf]
theorem idxK_mono {L:List Ky} (hs:L.Pairwise fun a b=>kyN a < kyN b) {a b:Ky} (ha:a∈L) (hb:b∈L) (h:kyN a < kyN b):idxK L a < idxK L b:=by
 apply Classical.byContradiction
 intro hn;have e1:=idxK_get ha;have e2:=idxK_get hb
 rcases Nat.lt_or_ge (idxK L b) (idxK L a) with hlt | hge
 ·have h3:=List.pairwise_iff_getElem.1 hs _ _ (idxK_lt hb) (idxK_lt ha) hlt;rw [List.getElem?_eq_getElem (idxK_lt ha)] at e1;rw [List.getElem?_eq_getElem (idxK_lt hb)] at e2;rw [Option.some.inj e1,Option.some.inj e2] at h3;omega
 ·have:idxK L a=idxK L b:=(by omega);rw [this,e2] at e1;rw [Option.some.inj e1] at h; omega
abbrev Nd:=Ky×List (Nat×List Nat)
def ndF (D:Ky→Bool) (R:List Ru) (L:List Ky) (k:Ky):Nd:=(k,(packsF D R k).map fun p=>(p.1,p.2.map (idxK L)))
def totP (D:Ky→Bool) (R:List Ru) (L:List Ky):Nat:=(L.map fun k=>(packsF D R k).length).sum
theorem totP_perm {R:List Ru} {L L':List Ky} (h:L.Perm L'):totP D R L=totP D R L':=(h.map _).sum_nat
end
end Go.Proofs.YtfcihnpmeabacaaGreatDoor
