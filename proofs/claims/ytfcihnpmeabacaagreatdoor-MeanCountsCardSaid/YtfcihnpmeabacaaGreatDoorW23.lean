/- Texts TR, TG, TS, laid together. -/
import Derived.Test.YtfcihnpmeabacaaGreatDoorW22
import Derived.Test.YtfcihnpmeabacaaGreatDoorW12
namespace Go.Proofs.YtfcihnpmeabacaaGreatDoor
open Go.RowKit
inductive Tg where
 | free
 | fix
 | tree
 | que
 | list (v:Nat)
 | wait (k:WtK)
abbrev OkT (tg:Nat→Tg) (b:Nat):Prop:=tg b=.tree
def wkVal (k:WtK):Value:=.agg #[.int .i64 (k.1:Int),.int .i64 (k.2:Int)]
structure LsM (w0:World) (bl lb bs bw:Nat) (A:Option Addr) (n c:Nat) (root most:Int) (tg:Nat→Tg) (st:LsS) (qv:Value) (vs:Nat→Value) (F:WtK→Option Value) (w:World):Prop where
 bel:Below w0.heap.size w0 w
 que:QuV w0.heap.size bl (.slice A n c) (.int .i64 root) (.int .i64 most) (.slice (some ⟨lb,0,none⟩) n n) (.map (some bs)) (.map (some bw)) (OkT tg) st.q.length st.q qv w
 qtg:∀ b,qv.ownBlock=some b→tg b=.que
 lbk:∃ cs:Array Value,Blk w lb 139 cs∧cs.size=n∧∀ v,v < n→cs[v]?=some (vs v)
 lst:∀ v,v < n→Own PtE 138 (OkT tg) w w0.heap.size (vs v) (lstAt st.lists v).length (lstAt st.lists v)
 ltg:∀ v,v < n→∀ b,(vs v).ownBlock=some b→tg b=.list v
 seen:SeenM w bs st.seen
 wts:MapK Tryz.prog 193 wkVal w bw F
 wno:∀ k,F k=none↔wGet st.waits k=[]
 wrow:∀ k V,F k=some V→Own WtE 145 (fun _=>False) w w0.heap.size V (wGet st.waits k).length (wGet st.waits k)
 wtg:∀ k V b,F k=some V→V.ownBlock=some b→tg b=.wait k
 fix:tg bl=.fix∧tg lb=.fix∧tg bs=.fix∧tg bw=.fix
 ne:bl≠lb∧bl≠bs∧bl≠bw∧lb≠bs∧lb≠bw∧bs≠bw
 rng:∀ b,tg b≠.free→w0.heap.size≤b∧b < w.heap.size
section
variable {w0 w w':World} {bl lb bs bw:Nat} {A:Option Addr} {n c:Nat} {root most:Int} {tg:Nat→Tg} {st:LsS} {qv:Value} {vs:Nat→Value} {F:WtK→Option Value}
theorem LsM.size (h:LsM w0 bl lb bs bw A n c root most tg st qv vs F w):w0.heap.size≤w.heap.size:=h.bel.size
theorem LsM.via (h:LsM w0 bl lb bs bw A n c root most tg st qv vs F w) (hb:Below w.heap.size w w'):LsM w0 bl lb bs bw A n c root most tg st qv vs F w' :=
 ⟨h.bel.via hb,⟨h.que.own.via hb,h.que.blk.via hb,h.que.ne,h.que.okq⟩,h.qtg,by
  obtain ⟨cs,h1,h2,h3⟩:=h.lbk
  exact ⟨cs,h1.via hb,h2,h3⟩,fun v hv=>(h.lst v hv).via hb,h.ltg,h.seen.agr_ (hb.block bs h.seen.lt),h.wts.via hb,h.wno,fun k V hV=>(h.wrow k V hV).via hb,h.wtg,h.fix,h.ne,fun b hb2=>⟨(h.rng b hb2).1,Nat.lt_of_lt_of_le (h.rng b hb2).2 hb.size⟩⟩
theorem LsM.setQ {S:Nat→Prop} {tg':Nat→Tg} {q':List QE} {qv':Value} (h:LsM w0 bl lb bs bw A n c root most tg st qv vs F w) (hF:Frq S w w') (hS:∀ b,S b→b < w.heap.size→b=bl∨tg b=.que) (hT:∀ b,b < w.heap.size→tg' b=tg b) (hR:∀ b,tg' b≠.free→w0.heap.size≤b∧b < w'.heap.size)
 (hq:QuV w0.heap.size bl (.slice A n c) (.int .i64 root) (.int .i64 most) (.slice (some ⟨lb,0,none⟩) n n) (.map (some bs)) (.map (some bw)) (OkT tg') q'.length q' qv' w') (hqt:∀ b,qv'.ownBlock=some b→tg' b=.que) :
 LsM w0 bl lb bs bw A n c root most tg' { st with q:=q' } qv' vs F w':=by
 obtain ⟨f1,f2,f3,f4⟩:=h.fix;have lt:∀ b,tg b=.fix→b < w.heap.size:=fun b hb=>(h.rng b (by rw [hb]; exact fun e=>by cases e)).2
 have ge:∀ b,tg b=.fix→w0.heap.size≤b:=fun b hb=>(h.rng b (by rw [hb]; exact fun e=>by cases e)).1
 have geq:∀ b,tg b=.que→w0.heap.size≤b:=fun b hb=>(h.rng b (by rw [hb]; exact fun e=>by cases e)).1
 have keep:∀ b,b < w.heap.size→b≠bl→tg b≠.que→w'.heap[b]?=w.heap[b]?:=fun b hb h1 h2=>hF.block b hb fun hs=>by
  rcases hS b hs hb with e | e
  ·exact h1 e
  ·exact h2 e
 have ok:∀ b,b < w.heap.size→OkT tg b→OkT tg' b:=fun b hb hk=>by rw [OkT,hT b hb]; exact hk
 have rows:∀ (T:Tg) (V:Value),T≠.que→T≠.fix→(∀ b,V.ownBlock=some b→tg b=T)→Agr (fun b=>OkT tg b∨some b=V.ownBlock) w w':=fun T V h1 h2 h3 b hb hlt=>by
  rcases hb with hb | hb
  ·exact keep b hlt (fun e=>by rw [e] at hb; rw [OkT,f1] at hb; cases hb) (fun e=>by rw [OkT,e] at hb; cases hb)
  ·have e:=h3 b hb.symm;exact keep b hlt (fun e2=>by rw [e2,f1] at e; exact h2 e.symm) (fun e2=>by rw [e2] at e; exact h1 e.symm)
 refine ⟨⟨hF.os.trans h.bel.os,hF.tape.trans h.bel.tape,hF.output.trans h.bel.output,Nat.le_trans h.bel.size hF.size,fun b hb=>?_⟩,hq,hqt,?_,fun v hv=>?_,fun v hv b hb=>?_,?_,?_,h.wno,fun k V hV=>?_,fun k V b hV hb=>?_,?_,h.ne,hR⟩
 ·exact (keep b (Nat.lt_of_lt_of_le hb h.bel.size) (fun e=>by have:=ge bl f1; omega) (fun e=>by have:=geq b e; omega)).trans (h.bel.block b hb)
 ·obtain ⟨cs,h1,h2,h3⟩:=h.lbk;exact ⟨cs,(keep lb h1.lt (Ne.symm h.ne.1) (fun e=>by rw [f2] at e; cases e)).trans h1,h2,h3⟩
 ·exact ((h.lst v hv).agr (rows (.list v) (vs v) (fun e=>by cases e) (fun e=>by cases e) (h.ltg v hv))).mono fun b hb hk=>by
   by_cases hlt:b < w.heap.size
   ·exact ok b hlt hk
   ·exact absurd (h.rng b (by rw [OkT] at hk; rw [hk]; exact fun e=>by cases e)).2 hlt
 ·rw [hT b ((h.lst v hv).lt b hb).2]; exact h.ltg v hv b hb
 ·exact h.seen.agr_ (keep bs h.seen.lt (Ne.symm h.ne.2.1) (fun e=>by rw [f3] at e; cases e))
 ·exact h.wts.agr_ (keep bw h.wts.lt (Ne.symm h.ne.2.2.1) (fun e=>by rw [f4] at e; cases e))
 ·have hw:=h.wrow k V hV
  exact hw.agr ((rows (.wait k) V (fun e=>by cases e) (fun e=>by cases e) (fun b hb=>h.wtg k V b hV hb)).mono fun b hb=>by
   rcases hb with hb | hb
   ·exact hb.elim
   ·exact Or.inr hb)
 ·rw [hT b ((h.wrow k V hV).lt b hb).2]; exact h.wtg k V b hV hb
 ·exact ⟨(hT bl (lt bl f1)).trans f1,(hT lb (lt lb f2)).trans f2,(hT bs (lt bs f3)).trans f3,(hT bw (lt bw f4)).trans f4⟩
theorem LsM.retag {tg':Nat→Tg} (h:LsM w0 bl lb bs bw A n c root most tg st qv vs F w) (hT:∀ b,tg b≠.free→tg' b=tg b) (hR:∀ b,tg' b≠.free→w0.heap.size≤b∧b < w.heap.size):LsM w0 bl lb bs bw A n c root most tg' st qv vs F w:=by
 have ok:∀ b,OkT tg b→OkT tg' b:=fun b hk=>by
  have hk':tg b=.tree:=hk;show tg' b=.tree
  rw [hT b (by rw [hk']; exact fun e=>by cases e)]; exact hk'
 have tk:∀ (T:Tg) (b:Nat),T≠.free→tg b=T→tg' b=T:=fun T b h1 h2=>(hT b (by rw [h2]; exact h1)).trans h2
 obtain ⟨f1,f2,f3,f4⟩:=h.fix;refine ⟨h.bel,⟨h.que.own.mono fun b _ hk=>ok b hk,h.que.blk,h.que.ne,h.que.okq⟩,fun b hb=>tk _ b (fun e=>by cases e) (h.qtg b hb),h.lbk,fun v hv=>(h.lst v hv).mono fun b _ hk=>ok b hk,fun v hv b hb=>tk _ b (fun e=>by cases e) (h.ltg v hv b hb),h.seen,h.wts,h.wno,h.wrow,fun k V b hV hb=>tk _ b (fun e=>by cases e) (h.wtg k V b hV hb),?_,h.ne,hR⟩;exact ⟨tk _ bl (fun e=>by cases e) f1,tk _ lb (fun e=>by cases e) f2,tk _ bs (fun e=>by cases e) f3,tk _ bw (fun e=>by cases e) f4⟩
theorem LsM.setSeen {c0:Cand} (h:LsM w0 bl lb bs bw A n c root most tg st qv vs F w) (hg:w.grownBy w' (some bs)) (hs:SeenM w' bs (st.seen++[c0])):LsM w0 bl lb bs bw A n c root most tg { st with seen:=st.seen++[c0] } qv vs F w':=by
 obtain ⟨f1,f2,f3,f4⟩:=h.fix;have ge:∀ b,tg b≠.free→w0.heap.size≤b:=fun b hb=>(h.rng b hb).1
 have ne:∀ (T:Tg) (b:Nat),T≠.fix→tg b=T→some b≠some bs:=fun T b h1 h2 e=>by
  rw [Option.some.inj e,f3] at h2; exact h1 h2.symm
 have rows:∀ (T:Tg) (V:Value),T≠.fix→(∀ b,V.ownBlock=some b→tg b=T)→Agr (fun b=>OkT tg b∨some b=V.ownBlock) w w':=fun T V h2 h3=>Agr.grown hg fun b hb=>by
  rcases hb with hb | hb
  ·exact ne .tree b (fun e=>by cases e) hb
  ·exact ne T b h2 (h3 b hb.symm)
 have hz:w.heap.size≤w'.heap.size:=hg.size;refine ⟨h.bel.grown hg h.bel.size (fun b e=>by rw [← Option.some.inj e]; exact ge bs (by rw [f3]; exact fun e=>by cases e)),⟨h.que.own.agr (rows .que qv (fun e=>by cases e) h.qtg),h.que.blk.grown hg (fun e=>h.ne.2.1 (Option.some.inj e)),h.que.ne,h.que.okq⟩,h.qtg,?_,fun v hv=>(h.lst v hv).agr (rows (.list v) (vs v) (fun e=>by cases e) (h.ltg v hv)),h.ltg,hs,h.wts.grown hg (fun e=>h.ne.2.2.2.2.2 (Option.some.inj e).symm),h.wno,fun k V hV=>?_,h.wtg,h.fix,h.ne,fun b hb=>⟨(h.rng b hb).1,Nat.lt_of_lt_of_le (h.rng b hb).2 hz⟩⟩
 ·obtain ⟨cs,h1,h2,h3⟩:=h.lbk;exact ⟨cs,h1.grown hg (fun e=>h.ne.2.2.2.1 (Option.some.inj e)),h2,h3⟩
 ·exact (h.wrow k V hV).agr ((rows (.wait k) V (fun e=>by cases e) (fun b hb=>h.wtg k V b hV hb)).mono fun b hb=>by
   rcases hb with hb | hb
   ·exact hb.elim
   ·exact Or.inr hb)
theorem LsM.setList {tg':Nat→Tg} {v:Nat} {V':Value} {L':List CT} (h:LsM w0 bl lb bs bw A n c root most tg st qv vs F w) (hv:v < n) (hln:st.lists.length=n) (hF:Frq (fun b=>b=lb∨some b=(vs v).ownBlock) w w') (hT:∀ b,b < w.heap.size→tg' b=tg b) (hR:∀ b,tg' b≠.free→w0.heap.size≤b∧b < w'.heap.size)
 (hb:∃ cs:Array Value,Blk w' lb 139 cs∧cs.size=n∧∀ u,u < n→cs[u]?=some (if u=v then V' else vs u)) (ho:Own PtE 138 (OkT tg') w' w0.heap.size V' L'.length L') (hot:∀ b,V'.ownBlock=some b→tg' b=.list v) :
 LsM w0 bl lb bs bw A n c root most tg' { st with lists:=st.lists.set v L' } qv (fun u=>if u=v then V' else vs u) F w':=by
 obtain ⟨f1,f2,f3,f4⟩:=h.fix;have lt:∀ b,tg b=.fix→b < w.heap.size:=fun b hb=>(h.rng b (by rw [hb]; exact fun e=>by cases e)).2
 have ge:∀ b,tg b≠.free→w0.heap.size≤b:=fun b hb=>(h.rng b hb).1
 have keep:∀ b,b < w.heap.size→b≠lb→tg b≠.list v→w'.heap[b]?=w.heap[b]?:=fun b hb h1 h2=>hF.block b hb fun hs=>by
  rcases hs with e | e
  ·exact h1 e
  ·exact h2 (h.ltg v hv b e.symm)
 have ok:∀ b,b < w.heap.size→OkT tg b→OkT tg' b:=fun b hb hk=>by rw [OkT,hT b hb]; exact hk
 have rows:∀ (T:Tg) (V:Value),T≠.list v→T≠.fix→(∀ b,V.ownBlock=some b→tg b=T)→Agr (fun b=>OkT tg b∨some b=V.ownBlock) w w':=fun T V h1 h2 h3 b hb hlt=>by
  rcases hb with hb | hb
  ·exact keep b hlt (fun e=>by rw [e] at hb; rw [OkT,f2] at hb; cases hb) (fun e=>by rw [OkT,e] at hb; cases hb)
  ·have e:=h3 b hb.symm;exact keep b hlt (fun e2=>by rw [e2,f2] at e; exact h2 e.symm) (fun e2=>by rw [e2] at e; exact h1 e.symm)
 have okm:∀ {α ρ:Type} {E:Elem α ρ} {e:TypeId} {V:Value} {m:Nat} {l:List α},Own E e (OkT tg) w' w0.heap.size V m l→Own E e (OkT tg') w' w0.heap.size V m l:=fun hw=>hw.mono fun b hb hk=>by
  by_cases hlt:b < w.heap.size
  ·exact ok b hlt hk
  ·exact absurd (h.rng b (by rw [OkT] at hk; rw [hk]; exact fun e=>by cases e)).2 hlt
 have hget:∀ u,lstAt (st.lists.set v L') u=if u=v then L' else lstAt st.lists u:=fun u=>by
  unfold lstAt;rw [List.getD_eq_getElem?_getD]
  by_cases e:u=v
  ·rw [if_pos e,e,List.getElem?_set_self (by omega)]; rfl
  ·rw [if_neg e,List.getElem?_set_ne (Ne.symm e),List.getD_eq_getElem?_getD]
 refine ⟨⟨hF.os.trans h.bel.os,hF.tape.trans h.bel.tape,hF.output.trans h.bel.output,Nat.le_trans h.bel.size hF.size,fun b hb=>?_⟩,⟨okm (h.que.own.agr (rows .que qv (fun e=>by cases e) (fun e=>by cases e) h.qtg)),?_,h.que.ne,h.que.okq⟩,fun b hb=>?_,hb,fun u hu=>?_,fun u hu b hb=>?_,?_,?_,h.wno,fun k V hV=>?_,fun k V b hV hb=>?_,?_,h.ne,hR⟩
 ·exact (keep b (Nat.lt_of_lt_of_le hb h.bel.size) (fun e=>by have:=ge lb (by rw [f2]; exact fun e=>by cases e); omega) (fun e=>by have:=ge b (by rw [e]; exact fun e=>by cases e); omega)).trans (h.bel.block b hb)
 ·exact (keep bl h.que.blk.lt h.ne.1 (fun e=>by rw [f1] at e; cases e)).trans h.que.blk
 ·rw [hT b ((h.que.own.lt b hb).2)]; exact h.qtg b hb
 ·show Own PtE 138 (OkT tg') w' w0.heap.size (if u=v then V' else vs u) (lstAt (st.lists.set v L') u).length (lstAt (st.lists.set v L') u)
  rw [hget]
  by_cases e:u=v
  ·rw [if_pos e,if_pos e]; exact ho
  ·rw [if_neg e,if_neg e];exact okm ((h.lst u hu).agr (rows (.list u) (vs u) (fun e2=>e (by cases e2; rfl)) (fun e=>by cases e) (h.ltg u hu)))
 ·by_cases e:u=v
  ·simp only [if_pos e] at hb; rw [e]; exact hot b hb
  ·simp only [if_neg e] at hb;rw [hT b ((h.lst u hu).lt b hb).2]; exact h.ltg u hu b hb
 ·exact h.seen.agr_ (keep bs h.seen.lt (Ne.symm h.ne.2.2.2.1) (fun e=>by rw [f3] at e; cases e))
 ·exact h.wts.agr_ (keep bw h.wts.lt (Ne.symm h.ne.2.2.2.2.1) (fun e=>by rw [f4] at e; cases e))
 ·exact (h.wrow k V hV).agr ((rows (.wait k) V (fun e=>by cases e) (fun e=>by cases e) (fun b hb=>h.wtg k V b hV hb)).mono fun b hb=>by
   rcases hb with hb | hb
   ·exact hb.elim
   ·exact Or.inr hb)
 ·rw [hT b ((h.wrow k V hV).lt b hb).2]; exact h.wtg k V b hV hb
 ·exact ⟨(hT bl (lt bl f1)).trans f1,(hT lb (lt lb f2)).trans f2,(hT bs (lt bs f3)).trans f3,(hT bw (lt bw f4)).trans f4⟩
theorem LsM.setWait {tg':Nat→Tg} {k:WtK} {W':Wts} {F':WtK→Option Value} (h:LsM w0 bl lb bs bw A n c root most tg st qv vs F w) (hF:Frq (fun b=>b=bw∨tg b=.wait k) w w') (hT:∀ b,b < w.heap.size→tg' b=tg b) (hR:∀ b,tg' b≠.free→w0.heap.size≤b∧b < w'.heap.size)
 (hm:MapK Tryz.prog 193 wkVal w' bw F') (hFo:∀ j,j≠k→F' j=F j) (hgo:∀ j,j≠k→wGet W' j=wGet st.waits j)
 (hk:(F' k=none∧wGet W' k=[])∨∃ V,F' k=some V∧wGet W' k≠[]∧Own WtE 145 (fun _=>False) w' w0.heap.size V (wGet W' k).length (wGet W' k)∧∀ b,V.ownBlock=some b→tg' b=.wait k) :
 LsM w0 bl lb bs bw A n c root most tg' { st with waits:=W' } qv vs F' w':=by
 obtain ⟨f1,f2,f3,f4⟩:=h.fix;have lt:∀ b,tg b=.fix→b < w.heap.size:=fun b hb=>(h.rng b (by rw [hb]; exact fun e=>by cases e)).2
 have ge:∀ b,tg b≠.free→w0.heap.size≤b:=fun b hb=>(h.rng b hb).1
 have keep:∀ b,b < w.heap.size→b≠bw→tg b≠.wait k→w'.heap[b]?=w.heap[b]?:=fun b hb h1 h2=>hF.block b hb fun hs=>by
  rcases hs with e | e
  ·exact h1 e
  ·exact h2 e
 have ok:∀ b,b < w.heap.size→OkT tg b→OkT tg' b:=fun b hb hk=>by rw [OkT,hT b hb]; exact hk
 have rows:∀ (T:Tg) (V:Value),T≠.wait k→T≠.fix→(∀ b,V.ownBlock=some b→tg b=T)→Agr (fun b=>OkT tg b∨some b=V.ownBlock) w w':=fun T V h1 h2 h3 b hb hlt=>by
  rcases hb with hb | hb
  ·exact keep b hlt (fun e=>by rw [e] at hb; rw [OkT,f4] at hb; cases hb) (fun e=>by rw [OkT,e] at hb; cases hb)
  ·have e:=h3 b hb.symm;exact keep b hlt (fun e2=>by rw [e2,f4] at e; exact h2 e.symm) (fun e2=>by rw [e2] at e; exact h1 e.symm)
 have okm:∀ {α ρ:Type} {E:Elem α ρ} {e:TypeId} {V:Value} {m:Nat} {l:List α},Own E e (OkT tg) w' w0.heap.size V m l→Own E e (OkT tg') w' w0.heap.size V m l:=fun hw=>hw.mono fun b hb hk=>by
  by_cases hlt:b < w.heap.size
  ·exact ok b hlt hk
  ·exact absurd (h.rng b (by rw [OkT] at hk; rw [hk]; exact fun e=>by cases e)).2 hlt
 refine ⟨⟨hF.os.trans h.bel.os,hF.tape.trans h.bel.tape,hF.output.trans h.bel.output,Nat.le_trans h.bel.size hF.size,fun b hb=>?_⟩,⟨okm (h.que.own.agr (rows .que qv (fun e=>by cases e) (fun e=>by cases e) h.qtg)),?_,h.que.ne,h.que.okq⟩,fun b hb=>?_,?_,fun u hu=>okm ((h.lst u hu).agr (rows (.list u) (vs u) (fun e=>by cases e) (fun e=>by cases e) (h.ltg u hu))),fun u hu b hb=>?_,?_,hm,fun j=>?_,fun j V hV=>?_,fun j V b hV hb=>?_,?_,h.ne,hR⟩
 ·exact (keep b (Nat.lt_of_lt_of_le hb h.bel.size) (fun e=>by have:=ge bw (by rw [f4]; exact fun e=>by cases e); omega) (fun e=>by have:=ge b (by rw [e]; exact fun e=>by cases e); omega)).trans (h.bel.block b hb)
 ·exact (keep bl h.que.blk.lt h.ne.2.2.1 (fun e=>by rw [f1] at e; cases e)).trans h.que.blk
 ·rw [hT b ((h.que.own.lt b hb).2)]; exact h.qtg b hb
 ·obtain ⟨cs,h1,h2,h3⟩:=h.lbk;exact ⟨cs,(keep lb h1.lt h.ne.2.2.2.2.1 (fun e=>by rw [f2] at e; cases e)).trans h1,h2,h3⟩
 ·rw [hT b ((h.lst u hu).lt b hb).2]; exact h.ltg u hu b hb
 ·exact h.seen.agr_ (keep bs h.seen.lt h.ne.2.2.2.2.2 (fun e=>by rw [f3] at e; cases e))
 ·show F' j=none↔wGet W' j=[]
  by_cases e:j=k
  ·subst e
   rcases hk with ⟨h1,h2⟩ | ⟨V,h1,h2,-⟩
   ·exact ⟨fun _=>h2,fun _=>h1⟩
   ·exact ⟨(fun h3=>by rw [h1] at h3; cases h3),fun h3=>absurd h3 h2⟩
  ·rw [hFo j e,hgo j e]; exact h.wno j
 ·show Own WtE 145 (fun _=>False) w' w0.heap.size V (wGet W' j).length (wGet W' j)
  by_cases e:j=k
  ·subst e
   rcases hk with ⟨h1,h2⟩ | ⟨V1,h1,h2,h3,h4⟩
   ·rw [h1] at hV; cases hV
   ·rw [h1] at hV; cases hV; exact h3
  ·rw [hFo j e] at hV;rw [hgo j e]
   exact (h.wrow j V hV).agr ((rows (.wait j) V (fun e2=>e (by cases e2; rfl)) (fun e=>by cases e) (fun b hb=>h.wtg j V b hV hb)).mono fun b hb=>by
    rcases hb with hb | hb
    ·exact hb.elim
    ·exact Or.inr hb)
 ·by_cases e:j=k
  ·subst e
   rcases hk with ⟨h1,h2⟩ | ⟨V1,h1,h2,h3,h4⟩
   ·rw [h1] at hV; cases hV
   ·rw [h1] at hV; cases hV; exact h4 b hb
  ·rw [hFo j e] at hV;rw [hT b ((h.wrow j V hV).lt b hb).2]; exact h.wtg j V b hV hb
 ·exact ⟨(hT bl (lt bl f1)).trans f1,(hT lb (lt lb f2)).trans f2,(hT bs (lt bs f3)).trans f3,(hT bw (lt bw f4)).trans f4⟩
end
end Go.Proofs.YtfcihnpmeabacaaGreatDoor
namespace Go.Proofs.YtfcihnpmeabacaaGreatDoor
open Go.RowKit
open Go.MapKept
open Go.ChangeMaps (setBlock heap_setBlock_same heap_setBlock_other)
open Go.WideElems (Fit rd rg rd_key rd_mk other_key)
section
variable {κ:Type} [DecidableEq κ] {P:Program} {k:TypeId} {kk:κ→Value} {f:κ→Option Value} {w w':World} {b r bm cnt:Nat} {left:κ→Bool} {t e:TypeId}
theorem run_delete_K {ty:TypeId} {es:Array MapEntry} {clock:Nat} (K:Maps.Keyed P k) (ht:P.underlying t=some (.map k e)) (hb:w.heap[b]?=some (.map es clock)) (F:Fit P k anyElem es clock) {key:Value} {kl:Lit} (hkey:keyOf P k key=some kl) :
 ∃ es',(Builtin.delete_ #[t,k] ty #[.map (some b),key]).run P w=.ok (.tuple #[]) (setBlock w b (.map es' clock))∧es'.toList.Sublist es.toList∧Fit P k anyElem es' clock∧(∀ x,x∈es'.toList↔x∈es.toList∧x.key≠key):=by
 rcases K.find w hkey es.toList F.keys with ⟨h1,h2⟩ | ⟨j,e0,h1,h2,h3⟩
 ·refine ⟨es,?_,List.Sublist.refl _,F,fun x=>⟨fun h=>⟨h,h2 x h⟩,fun h=>h.1⟩⟩;simp [Builtin.delete_,run_underlying ht,MapKept.run_getObj_map hb,K.check w _ hkey,h1,MapKept.run_setObj_map _ hb,Result.andThen,setBlock]
 ·have hjl:j < es.toList.length:=(List.getElem?_eq_some_iff.1 h2).1;have hjs:j < es.size:=(by simpa using hjl)
  have hsub:(es.eraseIdxIfInBounds j).toList=es.toList.eraseIdx j:=by
   unfold Array.eraseIdxIfInBounds;rw [dif_pos hjs];simp
  have hp:es.toList.Pairwise (fun x y=>x.key≠y.key):=((stamped_iff es clock).1 F.stamped).2.2;refine ⟨es.eraseIdxIfInBounds j,?_,?_,⟨Nat.le_trans (MapFrom.size_erase es j) F.size,stamped_erase F.stamped j,?_⟩,fun x=>?_⟩
  ·simp [Builtin.delete_,run_underlying ht,MapKept.run_getObj_map hb,K.check w _ hkey,h1,MapKept.run_setObj_map _ hb,Result.andThen,setBlock]
  ·rw [hsub]; exact List.eraseIdx_sublist _ _
  ·intro x hx;rw [hsub] at hx;exact F.reads x ((List.eraseIdx_sublist _ _).subset hx)
  ·classical
   have hf:=ChangeMaps.filter_eq_eraseIdx (fun x:MapEntry=>decide (x.key=key)) es.toList j e0 h2 (by simp [h3]) (hp.imp fun {a c} h=>by
    simp only [decide_eq_true_eq,not_and];intro ea ec
    exact h (ea.trans ec.symm))
   rw [hsub,← hf,List.mem_filter];simp
theorem MapK.del {ty:TypeId} (h:MapK P k kk w b f) (K:Maps.Keyed P k) (ht:P.underlying t=some (.map k e)) (y:κ) {kl:Lit} (hkey:keyOf P k (kk y)=some kl) (hinj:∀ x y,kk x=kk y→x=y) :
 ∃ w',(Builtin.delete_ #[t,k] ty #[.map (some b),kk y]).run P w=.ok (.tuple #[]) w'∧MapK P k kk w' b (fun x=>if x=y then none else f x)∧w.grownBy w' (some b)∧w'.heap.size=w.heap.size ∧
  (∀ r left cnt,r≠b→RngK kk f w r b left cnt→∃ cnt',cnt'≤cnt∧RngK kk (fun x=>if x=y then none else f x) w' r b (fun z=>left z&&decide (z≠y)) cnt'):=by
 obtain ⟨es,clock,hb,F,hk,hf⟩:=h;obtain ⟨es',hrun,hsub,F',hm⟩:=run_delete_K (ty:=ty) K ht hb F hkey
 have hf':∀ z v,(if z=y then none else f z)=some v↔∃ x∈es'.toList,x.key=kk z∧x.val=v:=by
  intro z v
  by_cases hz:z=y
  ·subst hz;simp only [if_true];constructor
   ·intro h; cases h
   ·rintro ⟨x,hx,h1,-⟩;exact absurd h1 ((hm x).1 hx).2
  ·rw [if_neg hz,hf z v];constructor
   ·rintro ⟨x,hx,h1,h2⟩;exact ⟨x,(hm x).2 ⟨hx,fun e=>hz (hinj _ _ (h1.symm.trans e))⟩,h1,h2⟩
   ·rintro ⟨x,hx,h1,h2⟩;exact ⟨x,((hm x).1 hx).1,h1,h2⟩
 refine ⟨_,hrun,⟨es',clock,heap_setBlock_same hb _,F',fun x hx=>hk x ((hm x).1 hx).1,hf'⟩,⟨rfl,rfl,rfl,by simp [setBlock],fun i _ hi=>heap_setBlock_other hb _ (fun e=>hi (by rw [e]))⟩,by simp [setBlock],?_⟩;rintro r left cnt hne ⟨since,seen,c0,es1,clock1,h1,h2,h3,h4,h5,h6,h7,h8,h9,h10⟩;rw [hb] at h2;cases h2
 have hlm:∀ x,x∈(leftOf es' seen).toList↔x∈(leftOf es seen).toList∧x.key≠kk y:=by
  intro x;simp only [leftOf,Array.toList_filter,List.mem_filter,hm x];constructor
  ·rintro ⟨⟨a,b⟩,c⟩; exact ⟨⟨a,c⟩,b⟩
  ·rintro ⟨⟨a,c⟩,b⟩; exact ⟨⟨a,b⟩,c⟩
 refine ⟨(leftOf es' seen).size,?_,since,seen,c0,es',clock,(heap_setBlock_other hb _ hne).trans h1,heap_setBlock_same hb _,fun x hx=>h3 x ((hm x).1 hx).1,h4,h5,?_,fun x hx z hz=>h7 x ((hm x).1 hx).1 z ((hm z).1 hz).1,?_,?_,rfl⟩
 ·rw [← h10,← Array.length_toList,← Array.length_toList];simp only [leftOf,Array.toList_filter];exact (hsub.filter _).length_le
 ·exact (hsub.map _).nodup h6
 ·intro x hx;obtain ⟨z,hz1,hz2⟩:=h8 x ((hm x).1 hx).1;refine ⟨z,hz1,?_⟩;have hzy:z≠y:=fun e'=>((hm x).1 hx).2 (by rw [hz1,e'])
  show (if z=y then none else f z)=some x.val
  rw [if_neg hzy];exact hz2
 ·intro z;rw [Bool.and_eq_true,decide_eq_true_eq,h9 z];constructor
  ·rintro ⟨⟨x,hx,hxk⟩,hz⟩;exact ⟨x,(hlm x).2 ⟨hx,fun e=>hz (hinj _ _ (hxk.symm.trans e))⟩,hxk⟩
  ·rintro ⟨x,hx,hxk⟩;obtain ⟨a,c⟩:=(hlm x).1 hx;exact ⟨⟨x,a,hxk⟩,fun e=>c (by rw [hxk,e])⟩
variable {ops:Array Oper} {rest:List Oper} {o:Oper} {a:Act} {Q:Exit→Act→World→Prop}
end
end Go.Proofs.YtfcihnpmeabacaaGreatDoor
namespace Go.Proofs.YtfcihnpmeabacaaGreatDoor
open Go.RowKit
open Go.MapKept
open Go.ChangeMaps (setBlock heap_setBlock_same heap_setBlock_other)
theorem wkVal_inj (x y:WtK) (h:wkVal x=wkVal y):x=y:=by
 obtain ⟨a,b⟩:=x;obtain ⟨c,d⟩:=y;simp [wkVal] at h;obtain ⟨h1,h2⟩:=h;simp only [Prod.mk.injEq];exact ⟨by omega,by omega⟩
theorem wk_keyed:Maps.Keyed Tryz.prog 193 :=
 Maps.Keyed.of_law (deep_law_laid laidOutK (m:=2) (by omega) (of_decide_eq_true (by kernel_rfl)) (by kernel_rfl) (by rw [Tryz.underlying193]))
theorem wk_key (x:WtK) (h1:x.1≤1000000000000) (h2:x.2≤1000000000000):∃ l,keyOf Tryz.prog 193 (wkVal x)=some l:=by
 have hc:Tryz.prog.cellsOf 193=2:=(by kernel_rfl);have hi:Tryz.prog.cellsOf 3=1:=(by kernel_rfl);have w1:(Lit.int .i64 (x.1:Int)).wf=true:=WalkArith.wf_i64 (by omega);have w2:(Lit.int .i64 (x.2:Int)).wf=true:=WalkArith.wf_i64 (by omega);have hf:(wkVal x).formed Tryz.prog 193=true:=(by simp [Value.formed,Tryz.underlying193,hc,wkVal])
 have hk:Tryz.prog.keyLits (Tryz.prog.types.size+1) 193 [.int .i64 (x.1:Int),.int .i64 (x.2:Int)]=some [.int .i64 (x.1:Int),.int .i64 (x.2:Int)]:=by
  have e:Tryz.prog.types.size+1=(Tryz.prog.types.size - 1)+1+1:=(by have:1≤Tryz.prog.types.size:=of_decide_eq_true (by kernel_rfl); omega);rw [e];generalize Tryz.prog.types.size - 1=d;simp [Program.keyLits,Tryz.underlying193,Tryz.underlying3,hc,hi,w1,w2]
 refine ⟨.string (keyBytes [.int .i64 (x.1:Int),.int .i64 (x.2:Int)]),?_⟩;unfold keyOf;rw [Tryz.underlying193];simp only [hf,Bool.and_true];rw [if_pos (by kernel_rfl)];show Option.map _ (Tryz.prog.keyLits _ _ [.int .i64 (x.1:Int),.int .i64 (x.2:Int)])=_
 rw [hk]; rfl
section
variable {κ:Type} [DecidableEq κ] {P:Program} {k:TypeId} {kk:κ→Value} {f:κ→Option Value} {w w':World} {b:Nat} {t e:TypeId}
theorem MapK.entryV (h:MapK P k kk w b f) (K:Maps.Keyed P k) (ht:P.underlying t=some (.map k e)) (hinj:∀ x y,kk x=kk y→x=y) (y:κ) {kl:Lit} (hkey:keyOf P k (kk y)=some kl) {z:Value} (hz:(zeroValue e).run P w=.ok z w)
 (hroom:∀ es clock,w.heap[b]?=some (.map es clock)→es.size < maxLen) :
 ∃ (w1:World) (st:Nat) (v0:Value),(Instr.mapEntry t (.map (some b)) (kk y)).run P w=.ok (.tuple #[v0,.int .i64 (st:Int)]) w1∧v0=(f y).getD z∧w.grownBy w1 (some b)∧w1.heap.size=w.heap.size ∧
  ∀ (val:Value) (w1':World),w1'.heap[b]?=w1.heap[b]?→∃ w2,(Instr.entryStore t (.map (some b)) (.int .i64 (st:Int)) val).run P w1'=.ok () w2∧MapK P k kk w2 b (fun x=>if x=y then some val else f x)∧w1'.grownBy w2 (some b)∧w2.heap.size=w1'.heap.size:=by
 have hst0:=fun val=>h.store K ht hinj y val hkey hroom
 obtain ⟨es,clock,hb,F,hk,hf⟩:=h;have hst:=F.stamped
 rcases K.find w hkey es.toList F.keys with ⟨h1,h2⟩ | ⟨j,e0,h1,h2,h3⟩
 ·have hr1:(Instr.mapEntry t (.map (some b)) (kk y)).run P w=.ok (.tuple #[z,.int .i64 (clock:Int)]) (setBlock w b (.map (es.push ⟨kk y,z,clock⟩) (clock+1))):=by
   simp [Instr.mapEntry,run_underlying ht,MapKept.run_getObj_map hb,K.check w false hkey,h1,hz,MapKept.run_setObj_map _ hb,Result.andThen,setBlock,goInt]
  have hfn:f y=none:=by
   cases hfy:f y with
   | none=>rfl
   | some v=>obtain ⟨x,hx,hk1,-⟩:=(hf y v).1 hfy; exact absurd hk1 (h2 x hx)
  refine ⟨_,clock,z,hr1,by rw [hfn]; rfl,⟨rfl,rfl,rfl,by simp [setBlock],fun i _ hi=>sbK_other (fun e=>hi (by rw [e]))⟩,by simp [setBlock],fun val w1' hb1=>?_⟩;obtain ⟨w',hrunS,hS,-,-⟩:=hst0 val
  have hr2:(Instr.mapUpdate t (.map (some b)) (kk y) val).run P w=.ok () (setBlock w b (.map (es.push ⟨kk y,val,clock⟩) (clock+1))):=by
   simp [Instr.mapUpdate,run_underlying ht,MapKept.run_getObj_map hb,K.check w false hkey,h1,MapKept.run_setObj_map _ hb,Result.andThen,setBlock]
  rw [hrunS] at hr2;have hw2:w'=setBlock w b (.map (es.push ⟨kk y,val,clock⟩) (clock+1)):=(by injection hr2);rw [sbK_same hb] at hb1
  have hfi:(es.push ⟨kk y,z,clock⟩).findIdx? (fun e=>(e.born:Int)==((clock:Nat):Int))=some es.size:=by
   have hn:((es.push ⟨kk y,z,clock⟩).toList.map (·.born)).Nodup:=by
    simp only [Array.toList_push,List.map_append,List.map_cons,List.map_nil];rw [List.nodup_append];refine ⟨hst.2.1,by simp,fun a ha c hc e=>?_⟩;simp only [List.mem_singleton] at hc;subst hc;obtain ⟨x,hx,rfl⟩:=List.mem_map.1 ha;have:=hst.1 x hx;omega
   exact findIdx_born (l:=(es.push ⟨kk y,z,clock⟩).toList) rfl (j:=es.size) (e0:=⟨kk y,z,clock⟩) hn (by simp)
  have hmod:(es.push ⟨kk y,z,clock⟩).modify es.size (fun e=>{ e with val:=val })=es.push ⟨kk y,val,clock⟩:=by
   apply Array.toList_inj.1
   rw [Array.toList_modify,ChangeMaps.modify_eq_set _ _ _ (⟨kk y,z,clock⟩:MapEntry) (by simp)];simp
  have hrE:(Instr.entryStore t (.map (some b)) (.int .i64 (clock:Int)) val).run P w1'=.ok () (setBlock w1' b (.map (es.push ⟨kk y,val,clock⟩) (clock+1))):=by
   simp [Instr.entryStore,MapKept.run_getObj_map hb1,asInt,asIntOf,hfi,hmod,MapKept.run_setObj_map _ hb1,Result.andThen,setBlock]
  refine ⟨_,hrE,hS.agr_ ?_,⟨rfl,rfl,rfl,by simp [setBlock],fun i _ hi=>sbK_other (fun e=>hi (by rw [e]))⟩,by simp [setBlock]⟩;rw [sbK_same hb1,hw2,sbK_same hb]
 ·have hj:es[j]?=some e0:=(by simpa using h2)
  have hr1:(Instr.mapEntry t (.map (some b)) (kk y)).run P w=.ok (.tuple #[e0.val,.int .i64 (e0.born:Int)]) (setBlock w b (.map (es.modify j (fun e'=>{ e' with key:=kk y })) clock)):=by
   simp [Instr.mapEntry,run_underlying ht,MapKept.run_getObj_map hb,K.check w false hkey,h1,hj,h3,K.stays w hkey,MapKept.run_setObj_map _ hb,Result.andThen,setBlock,goInt]
  have hfs:f y=some e0.val:=(hf y e0.val).2 ⟨e0,List.mem_of_getElem? h2,h3,rfl⟩;refine ⟨_,e0.born,e0.val,hr1,by rw [hfs]; rfl,⟨rfl,rfl,rfl,by simp [setBlock],fun i _ hi=>sbK_other (fun e=>hi (by rw [e]))⟩,by simp [setBlock],fun val w1' hb1=>?_⟩;obtain ⟨w',hrunS,hS,-,-⟩:=hst0 val
  have hr2:(Instr.mapUpdate t (.map (some b)) (kk y) val).run P w=.ok () (setBlock w b (.map (es.modify j (fun e'=>{ e' with key:=kk y,val:=val })) clock)):=by
   simp [Instr.mapUpdate,run_underlying ht,MapKept.run_getObj_map hb,K.check w false hkey,h1,hj,h3,K.stays w hkey,MapKept.run_setObj_map _ hb,Result.andThen,setBlock]
  rw [hrunS] at hr2;have hw2:w'=setBlock w b (.map (es.modify j (fun e'=>{ e' with key:=kk y,val:=val })) clock):=(by injection hr2);rw [sbK_same hb] at hb1;have hl1:(es.modify j (fun e'=>{ e' with key:=kk y })).toList=es.toList.set j { e0 with key:=kk y }:=(by rw [Array.toList_modify,ChangeMaps.modify_eq_set _ _ _ _ h2]);have hjl:j < es.toList.length:=(List.getElem?_eq_some_iff.1 h2).1
  have hfi:(es.modify j (fun e'=>{ e' with key:=kk y })).findIdx? (fun e=>(e.born:Int)==((e0.born:Nat):Int))=some j:=by
   have hn:((es.modify j (fun e'=>{ e' with key:=kk y })).toList.map (·.born)).Nodup:=by
    rw [hl1,List.map_set]
    have:(es.toList.map (·.born)).set j e0.born=es.toList.map (·.born):=by
     have e1:(es.toList.map (·.born))[j]?=some e0.born:=(by rw [List.getElem?_map,h2]; rfl);obtain ⟨e2,e3⟩:=List.getElem?_eq_some_iff.1 e1
     conv=>lhs; rw [← e3]
     exact List.set_getElem_self e2
    show ((es.toList.map (·.born)).set j e0.born).Nodup
    rw [this]; exact hst.2.1
   exact findIdx_born (l:=(es.modify j (fun e'=>{ e' with key:=kk y })).toList) rfl (j:=j) (e0:={ e0 with key:=kk y }) hn (by rw [hl1,List.getElem?_set_self hjl])
  have hmod:(es.modify j (fun e'=>{ e' with key:=kk y })).modify j (fun e=>{ e with val:=val })=es.modify j (fun e'=>{ e' with key:=kk y,val:=val }):=by
   apply Array.toList_inj.1
   rw [Array.toList_modify,hl1,ChangeMaps.modify_eq_set _ _ _ ({ e0 with key:=kk y }:MapEntry) (by rw [List.getElem?_set_self hjl]),Array.toList_modify,ChangeMaps.modify_eq_set _ _ _ _ h2];simp
  have hrE:(Instr.entryStore t (.map (some b)) (.int .i64 (e0.born:Int)) val).run P w1'=.ok () (setBlock w1' b (.map (es.modify j (fun e'=>{ e' with key:=kk y,val:=val })) clock)):=by
   simp [Instr.entryStore,MapKept.run_getObj_map hb1,asInt,asIntOf,hfi,hmod,MapKept.run_setObj_map _ hb1,Result.andThen,setBlock]
  refine ⟨_,hrE,hS.agr_ ?_,⟨rfl,rfl,rfl,by simp [setBlock],fun i _ hi=>sbK_other (fun e=>hi (by rw [e]))⟩,by simp [setBlock]⟩;rw [sbK_same hb1,hw2,sbK_same hb]
end
theorem wSum_len:∀ {W:Wts},WOk W→W.length≤wSum W
 | [],_=>Nat.zero_le _
 | p::W,h=>by
  have hk:=h.keys;rw [List.map_cons,List.nodup_cons] at hk;have ih:=wSum_len (W:=W) ⟨hk.2,fun q hq=>h.rows q (List.mem_cons_of_mem _ hq)⟩;have hp:0 < p.2.length:=List.length_pos_iff.2 (h.rows p (List.mem_cons_self ..));unfold wSum at ih ⊢;rw [List.map_cons,List.sum_cons,List.length_cons]; omega
theorem waits_room {P:Program} {k:TypeId} {w:World} {b:Nat} {F:WtK→Option Value} {W:Wts} (h:MapK P k wkVal w b F) (hno:∀ k,F k=none↔wGet W k=[]) (hw:WOk W):∀ es clock,w.heap[b]?=some (.map es clock)→es.size≤W.length:=by
 have hin:∀ y,F y≠none→y∈W.map (·.1):=fun y hy=>by
  have h1:¬ wGet W y=[]:=fun e=>hy ((hno y).2 e)
  rw [wGet_nil hw] at h1;exact Classical.not_not.1 h1
 refine h.room (fun y=>(W.map (·.1)).idxOf y) W.length (fun y hy=>by
  have:=List.idxOf_lt_length_iff.2 (hin y hy)
  rwa [List.length_map] at this) fun y z hy hz e=>?_
 have e1:=List.getElem_idxOf (List.idxOf_lt_length_iff.2 (hin y hy));have e2:=List.getElem_idxOf (List.idxOf_lt_length_iff.2 (hin z hz));rw [← e1,← e2]
 congr 1
abbrev TryS (tg:Nat→Tg) (L:List (List CT)) (b:Nat):Prop:=tg b=.fix∨tg b=.que∨∃ k,tg b=.wait k∧(lstAt L k.1).length≤k.2
section
variable {w0 w w':World} {bl lb bs bw:Nat} {A:Option Addr} {n c:Nat} {root most:Int} {tg:Nat→Tg} {st:LsS} {qv:Value} {vs:Nat→Value} {F:WtK→Option Value}
open Classical in
theorem LsM.pushed {e:Ending} {m:Nat} {q':List QE} (h:LsM w0 bl lb bs bw A n c root most tg st qv vs F w)
 (hp:PuP w0.heap.size bl (.slice A n c) (.int .i64 root) (.int .i64 most) (.slice (some ⟨lb,0,none⟩) n n) (.map (some bs)) (.map (some bw)) (OkT tg) m q' qv w e w') (hm:q'.length=m) :
 e=.returned (.tuple #[])∧∃ tg' qv',LsM w0 bl lb bs bw A n c root most tg' { st with q:=q' } qv' vs F w'∧(∀ b,b < w.heap.size→tg' b=tg b)∧Frq (TryS tg st.lists) w w':=by
 obtain ⟨g,d,he,hQ,hg,hF⟩:=hp;subst hm
 have old:g < w.heap.size→tg g=.que:=fun hlt=>by
  rcases hg with hg | hg
  ·exact h.qtg g hg.symm
  ·omega
 have hT:∀ b,b < w.heap.size→(if b=g then Tg.que else tg b)=tg b:=fun b hb=>by
  split
  ·next e=>subst e; exact (old hb).symm
  ·rfl
 refine ⟨he,fun b=>if b=g then .que else tg b,_,h.setQ hF (fun b hb _=>?_) hT (fun b hb=>?_) ⟨hQ.own.mono fun b _ hk=>?_,hQ.blk,hQ.ne,hQ.okq⟩ (fun b hb=>?_),hT,hF.mono fun b _ hb=>?_⟩
 ·rcases hb with hb | hb
  ·exact Or.inl hb
  ·exact Or.inr (h.qtg b hb.symm)
 ·by_cases e:b=g
  ·subst e; exact hQ.own.lt b rfl
  ·simp only [if_neg e] at hb;have:=h.rng b hb;exact ⟨this.1,Nat.lt_of_lt_of_le this.2 hF.size⟩
 ·show (if b=g then Tg.que else tg b)=.tree
  have hk':tg b=.tree:=hk
  by_cases e:b=g
  ·subst e;have:=(h.rng b (by rw [hk']; exact fun e=>by cases e)).2;rw [old this] at hk'; cases hk'
  ·rw [if_neg e]; exact hk'
 ·have e:g=b:=(by simpa [Value.ownBlock] using hb);simp [e]
 ·rcases hb with hb | hb
  ·subst hb; exact Or.inl h.fix.1
  ·exact Or.inr (Or.inl (h.qtg b hb.symm))
open Classical in
theorem LsM.waited {k:WtK} {c0:Cand} {V V':Value} (h:LsM w0 bl lb bs bw A n c root most tg st qv vs F w) (hV:V=(F k).getD (.slice none 0 0)) (hF:Frq (fun b=>b=bw∨some b=V.ownBlock) w w')
 (ho:Own WtE 145 (fun _=>False) w' w0.heap.size V' (wGet st.waits k++[c0]).length (wGet st.waits k++[c0])) (hat:V'.ownBlock=V.ownBlock∨∀ b,V'.ownBlock=some b→w.heap.size≤b)
 (hm:MapK Tryz.prog 193 wkVal w' bw fun x=>if x=k then some V' else F x) (hk:(lstAt st.lists k.1).length≤k.2) :
 ∃ tg',LsM w0 bl lb bs bw A n c root most tg' { st with waits:=wAdd st.waits k c0 } qv vs (fun x=>if x=k then some V' else F x) w'∧(∀ b,b < w.heap.size→tg' b=tg b)∧Frq (TryS tg st.lists) w w':=by
 have hVt:∀ b,V.ownBlock=some b→tg b=.wait k:=fun b hb=>by
  cases hf:F k with
  | none=>rw [hV,hf] at hb; cases hb
  | some V0=>rw [hV,hf] at hb; exact h.wtg k V0 b hf hb
 have hT:∀ b,b < w.heap.size→(if V'.ownBlock=some b then Tg.wait k else tg b)=tg b:=fun b hb=>by
  split
  ·next e =>
   rcases hat with h1 | h1
   ·exact (hVt b (h1.symm.trans e)).symm
   ·have:=h1 b e; omega
  ·rfl
 refine ⟨fun b=>if V'.ownBlock=some b then .wait k else tg b,h.setWait (k:=k) (hF.mono fun b _ hb=>?_) hT (fun b hb=>?_) hm (fun j hj=>if_neg hj) (fun j hj=>by rw [wGet_add,if_neg hj]) (Or.inr ⟨V',if_pos rfl,by rw [wGet_add,if_pos rfl]; simp,by rw [wGet_add,if_pos rfl]; exact ho,fun b hb=>if_pos hb⟩),hT,hF.mono fun b _ hb=>?_⟩
 ·rcases hb with hb | hb
  ·exact Or.inl hb
  ·exact Or.inr (hVt b hb.symm)
 ·by_cases e:V'.ownBlock=some b
  ·exact ho.lt b e
  ·simp only [if_neg e] at hb;have:=h.rng b hb;exact ⟨this.1,Nat.lt_of_lt_of_le this.2 hF.size⟩
 ·rcases hb with hb | hb
  ·subst hb; exact Or.inl h.fix.2.2.2
  ·exact Or.inr (Or.inr ⟨k,hVt b hb.symm,hk⟩)
end
theorem LInv.small {nd:List NdI} {most base:Nat} {st:LsS} {hand rem:Nat} (h:LInv nd most base st hand rem) {m:Nat} (hb:base+4*(nd.length*most)≤m):st.q.length+wSum st.waits+hand≤m∧st.seen.length≤m∧st.waits.length≤m:=by
 have h1:=sumL_le st.lists fun v=>(h.lst v).1
 rw [h.len] at h1;have h2:=h.cnt;have h3:=h.scn;have h4:=wSum_len h.wk;omega
end Go.Proofs.YtfcihnpmeabacaaGreatDoor
