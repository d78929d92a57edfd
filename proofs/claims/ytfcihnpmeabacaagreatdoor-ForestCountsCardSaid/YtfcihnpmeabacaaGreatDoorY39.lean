/- Texts SO, RX, SX, laid together. -/
import Derived.Test.YtfcihnpmeabacaaGreatDoorY31
import Derived.Test.YtfcihnpmeabacaaGreatDoorY36
import Derived.Test.YtfcihnpmeabacaaGreatDoorY26
import Derived.Test.YtfcihnpmeabacaaGreatDoorY38
import Derived.Test.YtfcihnpmeabacaaGreatDoorY34
import Derived.Test.YtfcihnpmeabacaaGreatDoorY27
import Derived.Shelf.Bits.Mul64
import Derived.Shelf.Lay
import Derived.Ground.NamesProg
import Derived.Laws.CopyOwn
namespace Go.Proofs.YtfcihnpmeabacaaGreatDoor
open Go.RowKit
theorem dv_le {R:List Ru} {xs:List Int} {k:Ky} (h:dvD R xs k=true):k.2.1≤k.2.2∧k.2.2≤xs.length:=⟨(dvD_iff.1 h).1,(dvD_iff.1 h).2.1⟩
theorem fo_bound {g:Gr} {D:Ky→Bool} {n most:Nat} {f:FoI} {b:Bool} (hg:g.Ok) (hn:n≤12) (hD:∀ k,D k=true→k.2.1≤k.2.2∧k.2.2≤n) (h:IsFo D g.rules ((false,g.start),0,n) most f b):FoB f.2:=by
 cases h with
 | none=>exact ⟨by simp,by simp⟩
 | large=>exact ⟨by simp,by simp⟩
 | @fits L h1 h2 h3 =>
  have hk:∀ k∈L,KyOk g n k:=fun k hk=>RchK.ok hg hD ⟨by simpa [Gr.okSy] using hg.start,Nat.zero_le _,Nat.le_refl _⟩ ((h2.mem k).1 hk)
  have hl:=nodup_len h2.nodup hk hg hn;refine ⟨by simp [foI]; omega,fun x hx=>?_⟩;obtain ⟨k,hkL,rfl⟩:=List.mem_map.1 hx;have hp:=packs_len (D:=D) (k:=k) (fun u hu=>(hg.right u hu).1) hg.count (Nat.le_trans (hk k hkL).2.2 hn);rw [ndI_eq];refine ⟨by simp only [List.length_map]; omega,fun p hp=>?_⟩;obtain ⟨q,hq,rfl⟩:=List.mem_map.1 hp;obtain ⟨-,u,hu,-,hw⟩:=packs_mem hq;have e1:=hw.len;have e2:=(hg.right u (List.mem_of_getElem? hu)).1;simp [rowI,intsN]; omega
end Go.Proofs.YtfcihnpmeabacaaGreatDoor
namespace Go.Proofs.YtfcihnpmeabacaaGreatDoor
open Go.RowKit Go.Shelf
def laysMul_ren:Go.Shelf.Ren:=⟨fun | 212=>124 | 263=>151 | 264=>152 | n=>n,fun | 46=>160 | 51=>126 | 146=>236 | 53=>206 | 148=>238 | n=>n,fun | n=>n⟩
theorem laysMul:Go.Proofs.Lays.n212 Tryz.prog laysMul_ren:={
 mixed:=by kernel_rfl
 f212:=Tryz.func124.trans (congrArg some (by kernel_rfl))
 f263:=Tryz.func151.trans (congrArg some (by kernel_rfl))
 f264:=Tryz.func152.trans (congrArg some (by kernel_rfl))
 t46:=Tryz.underlying160
 a46:=Tryz.isAgg160
 z46:=Tryz.sizeOf160
 v46:=Tryz.zeroValue160
 t51:=Tryz.underlying126
 a51:=Tryz.isAgg126
 z51:=Tryz.sizeOf126
 v51:=Tryz.zeroValue126
 t53:=Tryz.underlying206
 a53:=Tryz.isAgg206
 z53:=Tryz.sizeOf206
 v53:=Tryz.zeroValue206
 t146:=Tryz.underlying236
 a146:=Tryz.isAgg236
 z146:=Tryz.sizeOf236
 v146:=Tryz.zeroValue236
 t148:=Tryz.underlying238
 a148:=Tryz.isAgg238
 z148:=Tryz.sizeOf238
 v148:=Tryz.zeroValue238 }
theorem mul_c (n:Nat) (hn:n≤1000) (w:World) :
 Calls Tryz.prog 124 #[.int .u64 1,.int .u64 n] w fun e w'=>e=.returned (.tuple #[.int .u64 0,.int .u64 n])∧w'=w:=by
 have h:=Any.bits_Mul laysMul 1 n (by omega) (by omega) w;have e1:1*n / 18446744073709551616=0:=(by omega);have e2:1*n % 18446744073709551616=n:=(by omega);rw [e1,e2] at h;exact h
theorem mk_rep (n:Nat) (hn:n≤1000):∀ w:World,(Instr.makeSlice 25 (.int .i64 (n:Int)) (.int .i64 (n:Int))).run Tryz.prog w=.ok (.slice (some ⟨w.heap.size,0,none⟩) n n) (w.alloc (.cells (Array.replicate n (Value.int .i64 0)) 3)):=by
 intro w;obtain ⟨i,hi,hz,hs,hb⟩:=info_parts int_inf1;have h:=run_make (P:=Tryz.prog) w 25 3 i _ Tryz.underlying25 hi hz .i64 .i64 (n:Int) (n:Int) (by omega) (by omega) (by rw [hb]; omega) (by omega);rw [show ((n:Int)).toNat=n from by omega,hs,Nat.mul_one] at h;rw [← made_one];exact h
def Filled (n t:Nat) (L:List Value):Prop:=L.length=n∧L.take t=List.replicate t (Value.int .i64 (-1))
theorem Filled.start {n:Nat} {L:List Value} (h:L.length=n) (h1:1≤n):Filled n 1 (splice L 0 [.int .i64 (-1)]) :=
 ⟨by rw [length_splice]; exact h; simp; omega,by simp [splice]⟩
theorem Filled.next {n t c:Nat} {L:List Value} (h:Filled n t L) (hc:t+c≤n):Filled n (t+c) (splice L t (List.replicate c (.int .i64 (-1)))):=by
 obtain ⟨h1,h2⟩:=h;refine ⟨by rw [length_splice]; exact h1; simp; omega,?_⟩;unfold splice;rw [h2,← List.append_assoc,List.replicate_append_replicate,List.take_left' (by simp)]
theorem Filled.all {n:Nat} {L:List Value} (h:Filled n n L):L=List.replicate n (Value.int .i64 (-1)):=by
 rw [← h.2,List.take_of_length_le (by rw [h.1]; exact Nat.le_refl _)]
theorem Filled.cell {n t j:Nat} {L:List Value} (h:Filled n t L) (hj:j < t):L[j]?=some (.int .i64 (-1)):=by
 have e:(L.take t)[j]?=some (.int .i64 (-1)):=(by rw [h.2]; simp [hj])
 rwa [List.getElem?_take_of_lt hj] at e
def RepP (n:Nat) (w:World) (e:Ending) (w':World):Prop:=e=.returned (.slice (some ⟨w.heap.size,0,none⟩) n n)∧Blk w' w.heap.size 3 (List.replicate n (Value.int .i64 (-1))).toArray∧Below w.heap.size w w'
set_option maxRecDepth 100000 in
set_option maxHeartbeats 4000000 in
theorem repeat_c (s n:Nat) (w:World) (hs:w.cell? ⟨s,0,none⟩=some (.int .i64 (-1))) (h1:1≤n) (hn:n≤1000) :
 Calls Tryz.prog 82 #[.slice (some ⟨s,0,none⟩) 1 1,.int .i64 n] w (RepP n w):=by
 have hmk:=mk_rep n hn;have e1:decide ((n:Int) < 0)=false:=(by simp);have e2:decide ((9223372036854775807:Int) < (n:Int))=false:=(by simp; omega);have k1:IntKind.u64.wrap (n:Int)=(n:Int):=(by rw [IntKind.wrap_u64]; omega);have k2:IntKind.i64.wrap (n:Int)=(n:Int):=IntWalk.i64_in _ (by omega);go_enter Tryz.func82,Tryz.ntmps82;go_upto_region 7 with (go_at_call 124; refine (mul_c n hn _).mono ?_; rintro e w' ⟨rfl,hz⟩; rw [hz]; clear hz)
 have hg0:(w.alloc (.cells (Array.replicate n (Value.int .i64 0)) 3)).heap[w.heap.size]?=some (.cells (List.replicate n (Value.int .i64 0)).toArray 3 (0,0)):=by
  rw [List.toArray_replicate]; exact Blk.new w 3 _
 have hB:=(Below.refl w.heap.size w).al (.cells (Array.replicate n (Value.int .i64 0)) 3);have hs1:=(hB.cell (p:=⟨s,0,none⟩) (World.block_lt_of_cell? w _ hs)).trans hs;have hlr:(List.replicate n (Value.int .i64 0)).length=n:=(by simp);generalize hR:List.replicate n (Value.int .i64 0)=R at *;clear hR;generalize w.alloc (.cells (Array.replicate n (Value.int .i64 0)) 3)=W at *;clear hmk;have HG:=Lib.hid hg0;have HB:=Lib.hid hB;have HS:=Lib.hid hs1;have HLR:=Lib.hid hlr;clear hg0 hB hs1 hs hlr e1 e2;have hm1:[Value.int .i64 (-1)].length=Nat.min 1 n:=(Nat.min_eq_left h1).symm
 have hp1:∀ j v,[Value.int .i64 (-1)][j]?=some v→W.cell? ((⟨s,0,none⟩:Addr).add j)=some v:=fun j v hv=>by
  cases j with
  | zero=>simp at hv; subst hv; exact HS.out
  | succ j=>simp at hv
 have hf1:0+[Value.int .i64 (-1)].length≤R.length:=(by rw [HLR.out]; simpa using h1);have ho1:∀ v∈[Value.int .i64 (-1)],v.oneCell'=true:=(by simp [Value.oneCell']);have hi1:(Tryz.prog.info? 3).map (·.size)=some 1:=(by kernel_rfl);have HM1:=Lib.hid hm1;have HP1:=Lib.hid hp1;have HF1:=Lib.hid hf1;have HO1:=Lib.hid ho1;have HI1:=Lib.hid hi1;clear hm1 hp1 hf1 ho1 hi1;go_wp2_with (refine wpList_copy_splice rfl (.tmp 31) (.tmp 32) 25 25 rfl 3 Tryz.underlying25 HI1.out (some ⟨w.heap.size,0,none⟩) (some ⟨s,0,none⟩) n n 1 1 rfl rfl w.heap.size 0 R 3 HG.out [.int .i64 (-1)] HM1.out (fun _=>⟨rfl,_,rfl,HP1.out⟩) HF1.out HO1.out w.heap.size w HB.out (Nat.le_refl _) ?_; intro w2 hg2 hb2);have HFL:=Lib.hid (show Filled n 1 (splice R 0 [.int .i64 (-1)]) from Filled.start HLR.out h1);generalize splice R 0 [.int .i64 (-1)]=L1 at *;clear HG HB HS HLR HM1 HP1 HF1 HO1 HI1;have HB2:=Lib.hid hb2;clear hb2
 go_loopw [8] (fun q wt=>∃ (t:Nat) (L:List Value),q=.int .i64 t∧1≤t∧t≤n∧Filled n t L∧wt.heap[w.heap.size]?=some (.cells L.toArray 3 (0,0))∧Below w.heap.size w wt) (fun q _=>n - (intOf q).toNat)
 case atStart=>exact ⟨1,L1,rfl,Nat.le_refl _,h1,HFL.out,hg2.out,HB2.out⟩
 case round =>
  obtain ⟨t,L,rfl,ht1,htn,hfl,hg,hb⟩:=hrel;clear HFL hg2 HB2
  by_cases hlt:t < n
  ·obtain ⟨c,hc⟩:∃ c,c=Nat.min t (n - t):=⟨_,rfl⟩;have hc2:c≤t:=(by rw [hc]; exact Nat.min_le_left _ _);have hc3:c≤n - t:=(by rw [hc]; exact Nat.min_le_right _ _)
   have hc4:1≤c:=by
    rcases Nat.le_total t (n - t) with h | h
    ·have:=Nat.min_eq_left h; have e:c=t:=hc.trans this; omega
    ·have:=Nat.min_eq_right h; have e:c=n - t:=hc.trans this; omega
   have hc1:1≤c∧t+c≤n:=⟨hc4,by omega⟩;have HN:=Lib.hid (hfl.next hc1.2);have HG:=Lib.hid hg;have HB:=Lib.hid hb;have HC:=Lib.hid (show (List.replicate c (Value.int .i64 (-1))).length=Nat.min t (n - t) by rw [List.length_replicate]; exact hc);have HCC:=Lib.hid (show (List.replicate c (Value.int .i64 (-1))).length=c by simp)
   have HP:=Lib.hid (show ∀ j v,(List.replicate c (Value.int .i64 (-1)))[j]?=some v→wr.cell? ((⟨w.heap.size,0,none⟩:Addr).add j)=some v from fun j v hv=>by
    obtain ⟨hj,rfl⟩:j < c∧v=.int .i64 (-1):=by
     rw [List.getElem?_replicate] at hv; split at hv
     ·rename_i hj; exact ⟨hj,by simpa using hv.symm⟩
     ·cases hv
    have B:Blk wr w.heap.size 3 L.toArray:=hg;have e:=B.cell j;have q:=hfl.cell (j:=j) (by omega)
    have ea:(⟨w.heap.size,0,none⟩:Addr).add j=⟨w.heap.size,j,none⟩:=by
     unfold Addr.add; split
     ·rename_i h; subst h; rfl
     ·congr 1; exact Nat.zero_add _
    rw [ea]
    exact e.trans (by simpa using q))
   have HF:=Lib.hid (show t+(List.replicate c (Value.int .i64 (-1))).length≤L.length by rw [HCC.out,hfl.1]; omega);have HO:=Lib.hid (show ∀ v∈List.replicate c (Value.int .i64 (-1)),v.oneCell'=true from fun v hv=>by rw [List.eq_of_mem_replicate hv]; rfl);have HI:=Lib.hid (show (Tryz.prog.info? 3).map (·.size)=some 1 by kernel_rfl);have k3:IntKind.i64.wrap ((t:Int)+(c:Int))=(t:Int)+(c:Int):=IntWalk.i64_in _ (by omega);have t0:(0:Int)≤(t:Int):=(by omega);have t1:(t:Int)≤(n:Int):=(by omega);clear hfl hg hb hc;generalize List.replicate c (Value.int .i64 (-1))=cs at *
   obtain ⟨F,hF,hFg,hFb⟩:∃ F:World,Sem.run Tryz.prog (Builtin.copy_ #[25,25] 3 #[.slice (some ⟨w.heap.size,t,none⟩) (n - t) (n - t),.slice (some ⟨w.heap.size,0,none⟩) t n]) wr.drew=.ok (.int .i64 (c:Int)) F∧F.heap[w.heap.size]?=some (.cells (splice L t cs).toArray 3 (0,0))∧Below w.heap.size w F:=by
    refine ⟨wr.drew.setRow w.heap.size (splice L t cs).toArray,?_,setRow_heap wr.drew w.heap.size _ _ 3 _ HG.out,below_setRow HB.out.drew (Nat.le_refl _) _⟩;have h:=run_copy_row (P:=Tryz.prog) wr.drew 25 25 3 3 w.heap.size t (n - t) (n - t) ⟨w.heap.size,0,none⟩ t n L.toArray 3 cs Tryz.underlying25 HI.out HG.out HC.out HP.out (by simpa using HF.out) HO.out;rw [HCC.out] at h;rw [h];simp [splice,goInt,HCC.out]
   have hnt:¬ n=t:=(by omega);have HFG:=Lib.hid hFg;have HFB:=Lib.hid hFb;clear hFg hFb;go_wp2_with fail
   go_region
   clear hF hnt k3;go_wp2_with fail;exact ⟨⟨t+c,splice L t cs,by go_num,by omega,hc1.2,HN.out,HFG.out,HFB.out⟩,by simp [intOf]; omega⟩
  ·obtain rfl:t=n:=(by omega);have HG:=Lib.hid (show wr.heap[w.heap.size]?=some (.cells (List.replicate t (Value.int .i64 (-1))).toArray 3 (0,0)) by rw [← hfl.all]; exact hg);have HB:=Lib.hid hb;clear hfl hg hb;go_wp2_with fail;go_ret;exact ⟨rfl,HG.out,HB.out⟩
end Go.Proofs.YtfcihnpmeabacaaGreatDoor
namespace Go.Proofs.YtfcihnpmeabacaaGreatDoor
open Go.RowKit
def ChkA (g:Gr) (n:Nat) (xs:List Int) (f:FoI) (q:Int):Prop:=∃ fo b,IsFo (dvD g.rules xs) g.rules ((false,g.start),0,n) 20000 fo b∧((b=false∧q=2)∨(b=true∧f=fo∧q=0)∨(b=true∧f≠fo∧q=3))
set_option maxRecDepth 100000 in
theorem fcheck_e (ok:Nat→Prop) (T N S:Int) (A:Option Addr) (n c:Nat) (rs:List Ri) (wA:Option Addr) (wn wc:Nat) (xs:List Int) (fv:Value) (fA:Option Addr) (fn fc:Nat) (fr:Int) (w:World) (hl:Sl RiE ok w A n c rs) (hx:Ints w wA wn wc xs) (q:Int) (hq:chkB T N S rs xs=q) (hbad:q≠0) (hfv:fv=.agg #[.slice fA fn fc,.int .i64 fr]) :
 Calls Tryz.prog 83 #[.agg #[.int .i64 T,.int .i64 N,.int .i64 S,.slice A n c],.slice wA wn wc,fv] w fun e w'=>e=.returned (.int .i64 q)∧Below w.heap.size w w':=by
 subst hfv;have hal:=((Below.refl w.heap.size w).al (.cells #[.int .i64 T,.int .i64 N,.int .i64 S,.slice A n c] 24)).al (.cells #[.slice fA fn fc,.int .i64 fr] 45);have B0:=(Blk.new w 24 #[.int .i64 T,.int .i64 N,.int .i64 S,.slice A n c]).al (.cells #[.slice fA fn fc,.int .i64 fr] 45);have HC:=Lib.hid (of_e ok T N S A n c rs wA wn wc xs _ (hl.via hal) (hx.keep hal (Nat.le_refl _)) q hq hbad);have HAL:=Lib.hid hal;have hq1:(q != 0)=true:=(by simpa using hbad);clear hl hx hq hal hbad;go_enter Tryz.func83,Tryz.ntmps83;have cB0:=B0.cell;have fB0:=B0.frozen;have lB0:=B0.lt;go_wp2_with fail;clear cB0 fB0 lB0;clear B0;generalize (w.alloc (.cells #[.int .i64 T,.int .i64 N,.int .i64 S,.slice A n c] 24)).alloc (.cells #[.slice fA fn fc,.int .i64 fr] 45)=W at *;refine HC.out.mono ?_;clear HC;rintro e w1 ⟨rfl,hb⟩;have HB:=Lib.hid (HAL.out.via hb);have HB2:=Lib.hid ((HAL.out.via hb).via ((Below.refl w1.heap.size w1).al (.cells #[.slice none 0 0,.int .i64 0] 45)));clear hb HAL;go_wp2_with fail;go_ret;exact ⟨rfl,HB2.out⟩
set_option maxRecDepth 100000 in
set_option maxHeartbeats 4000000 in
theorem fcheck_c (ok okf:Nat→Prop) (g:Gr) (Ag:Option Addr) (ng cg:Nat) (A:Option Addr) (n c:Nat) (xs:List Int) (fA:Option Addr) (fn fc:Nat) (f:FoI) (w:World) (hg:GrOk g) (hl:Sl RuE ok w Ag ng cg g.rules) (hx:Ints w A n c xs) (hn:n≤12) (hxt:∀ x∈xs,0≤x∧x < (g.terms:Int)) (hT:TabW w) (hf:Sl NdE okf w fA fn fc f.2) :
 Calls Tryz.prog 83 #[grVal g Ag ng cg,.slice A n c,.agg #[.slice fA fn fc,.int .i64 f.1]] w fun e w'=>(∃ q,e=.returned (.int .i64 q)∧ChkA g n xs f q)∧Below w.heap.size w w':=by
 have hal:=((Below.refl w.heap.size w).al (.cells #[.int .i64 (g.terms:Int),.int .i64 (g.nons:Int),.int .i64 (g.start:Int),.slice Ag ng cg] 24)).al (.cells #[.slice fA fn fc,.int .i64 f.1] 45);have B0:=(Blk.new w 24 #[.int .i64 (g.terms:Int),.int .i64 (g.nons:Int),.int .i64 (g.start:Int),.slice Ag ng cg]).al (.cells #[.slice fA fn fc,.int .i64 f.1] 45);have B1:=Blk.newAt (w.alloc (.cells #[.int .i64 (g.terms:Int),.int .i64 (g.nons:Int),.int .i64 (g.start:Int),.slice Ag ng cg] 24)) 45 #[.slice fA fn fc,.int .i64 f.1] (w.heap.size+1) (by simp);have HC:=Lib.hid (of_c ok g Ag ng cg A n c xs _ hg (hl.via hal) (hx.keep hal (Nat.le_refl _)) hn hxt (hT.via hal));have HAL:=Lib.hid hal;have HB1:=Lib.hid B1;have HF:=Lib.hid (hf.via hal);have HG:=Lib.hid hg;have HD:=Lib.hid (show ∀ k,dvD g.rules xs k=true→k.2.1≤k.2.2∧k.2.2≤n from fun k h=>by rw [← hx.len]; exact dv_le h);clear hl hx hT hg hal hxt hf;simp only [grVal] at HC ⊢;go_enter Tryz.func83,Tryz.ntmps83;have cB0:=B0.cell;have fB0:=B0.frozen;have lB0:=B0.lt;go_wp2_with fail;clear cB0 fB0 lB0;clear B0 B1;generalize (w.alloc (.cells #[.int .i64 (g.terms:Int),.int .i64 (g.nons:Int),.int .i64 (g.start:Int),.slice Ag ng cg] 24)).alloc (.cells #[.slice fA fn fc,.int .i64 f.1] 45)=W at *;refine HC.out.mono ?_;clear HC;rintro e w1 ⟨fo,v,bb,rfl,hfo,⟨oA,on,oc,rfl,hS⟩,hb⟩;have hal2:=(Below.refl w1.heap.size w1).al (.cells #[.slice oA on oc,.int .i64 fo.1] 45);have hb2:=hb.via hal2;have HFO:=Lib.hid hfo;have HS:=Lib.hid (hS.via hal2);have HF2:=Lib.hid (HF.out.via hb2);have HBB:=Lib.hid (HAL.out.via hb2);have BF:=HB1.out.via hb2;have BO:=Blk.new w1 45 #[.slice oA on oc,.int .i64 fo.1];clear hfo hS hb hal2 hb2 HF HAL HB1;cases bb with
 | false =>
  simp only [Bool.false_eq_true,if_false];go_wp2_with fail;go_ret;exact ⟨⟨2,rfl,fo,false,HFO.out,Or.inl ⟨rfl,rfl⟩⟩,HBB.out⟩
 | true =>
  simp only [if_true];go_upto_region 2 with fail;generalize w1.alloc (.cells #[.slice oA on oc,.int .i64 fo.1] 45)=W2 at *;have cBF:=BF.cell;have fBF:=BF.frozen;have lBF:=BF.lt;have cBO:=BO.cell;have fBO:=BO.frozen;have lBO:=BO.lt;go_wp2_with fail;clear cBF fBF lBF cBO fBO lBO;clear BF BO;refine (fsame_c okf (fun b=>W.heap.size≤b) fA oA fn fc on oc f.1 fo.1 f.2 fo.2 W2 HF2.out HS.out (fo_bound HG.out.ok hn HD.out HFO.out)).mono ?_;rintro e w3 ⟨b3,rfl,hb3,hbe⟩;have HB3:=Lib.hid (HBB.out.via hbe);cases b3 with
  | true =>
   have h:=hb3.1 rfl;have HQ:=Lib.hid (show ∃ q,(0:Int)=q∧ChkA g n xs f q from ⟨0,rfl,fo,true,HFO.out,Or.inr (Or.inl ⟨rfl,Prod.ext h.1 h.2,rfl⟩)⟩);clear hb3 hbe h;go_wp2_with fail;go_ret;obtain ⟨q,e,hq⟩:=HQ.out;exact ⟨⟨q,by rw [← e]; rfl,hq⟩,HB3.out⟩
  | false =>
   have HQ:=Lib.hid (show ∃ q,(3:Int)=q∧ChkA g n xs f q from ⟨3,rfl,fo,true,HFO.out,Or.inr (Or.inr ⟨rfl,(fun e=>by have:=hb3.2 ⟨by rw [e],by rw [e]⟩; cases this),rfl⟩)⟩);clear hb3 hbe;go_wp2_with fail;go_ret;obtain ⟨q,e,hq⟩:=HQ.out;exact ⟨⟨q,by rw [← e]; rfl,hq⟩,HB3.out⟩
set_option maxRecDepth 100000 in
set_option maxHeartbeats 8000000 in
theorem valid_w (ok okf:Nat→Prop) (g:Gr) (Ag:Option Addr) (ng cg:Nat) (fA:Option Addr) (fn fc:Nat) (v:Nat) (nd:List NdI) (t:Nat) (ws:List Int) (w:World) (hg:GrOk g) (hl:Sl RuE ok w Ag ng cg g.rules) (hT:TabW w) (hf:Sl NdE okf w fA fn fc nd) (hfn:fn≤1000000) (hv:v < fn) (ht:(ndAt nd v).1.2.2.2=(t:Int)) (h1:1≤t) (h12:t≤12)
 (hfill:fillW t nd (List.replicate t (-1))=some ws) (hwt:∀ x∈ws,0≤x∧x < (g.terms:Int)) :
 Calls Tryz.prog 53 #[grVal g Ag ng cg,.agg #[.slice fA fn fc,.int .i64 (v:Int)]] w fun e w'=>(∃ q,e=.returned (.int .i64 (if q=0 then 0 else 3))∧ChkA g t ws ((v:Int),nd) q)∧Below w.heap.size w w':=by
 have hal:=((Below.refl w.heap.size w).al (.cells #[.int .i64 (g.terms:Int),.int .i64 (g.nons:Int),.int .i64 (g.start:Int),.slice Ag ng cg] 24)).al (.cells #[.slice fA fn fc,.int .i64 (v:Int)] 45);have B0:=(Blk.new w 24 #[.int .i64 (g.terms:Int),.int .i64 (g.nons:Int),.int .i64 (g.start:Int),.slice Ag ng cg]).al (.cells #[.slice fA fn fc,.int .i64 (v:Int)] 45);have B1:=Blk.newAt (w.alloc (.cells #[.int .i64 (g.terms:Int),.int .i64 (g.nons:Int),.int .i64 (g.start:Int),.slice Ag ng cg] 24)) 45 #[.slice fA fn fc,.int .i64 (v:Int)] (w.heap.size+1) (by simp);have HCK:=Lib.hid (check_c ok g Ag ng cg _ hg (hl.via hal));have HAL:=Lib.hid hal;have HB1:=Lib.hid B1;have HF:=Lib.hid (hf.via hal);have HL:=Lib.hid (hl.via hal);have HT:=Lib.hid (hT.via hal);have HG:=Lib.hid hg;have HWT:=Lib.hid hwt;have HFW:=Lib.hid hfill;have HTO:=Lib.hid ht;have HNL:=Lib.hid hf.len;have HB0:=Lib.hid B0;clear hl hT hg hal hwt hf hfill ht;simp only [grVal] at HCK ⊢;go_enter Tryz.func53,Tryz.ntmps53;have cB0:=B0.cell;have fB0:=B0.frozen;have lB0:=B0.lt;go_wp2_with fail;clear cB0 fB0 lB0;clear B0 B1;generalize (w.alloc (.cells #[.int .i64 (g.terms:Int),.int .i64 (g.nons:Int),.int .i64 (g.start:Int),.slice Ag ng cg] 24)).alloc (.cells #[.slice fA fn fc,.int .i64 (v:Int)] 45)=W at *;refine HCK.out.mono ?_;clear HCK;rintro e w1 ⟨rfl,hb1⟩;have HB1':=Lib.hid (HAL.out.via hb1);have BF:=HB1.out.via hb1;have HBF:=Lib.hid BF;have HBG:=Lib.hid (HB0.out.via hb1);have HF1:=Lib.hid (HF.out.via hb1);have HL1:=Lib.hid (HL.out.via hb1);have HT1:=Lib.hid (HT.out.via hb1);obtain ⟨b1,o1,⟨⟨xb,xm,xi,xj⟩,PA,pl,pc⟩,⟨⟨xb',xm',xi',xj'⟩,ps⟩,hAa,-,hb1l,hx,⟨hx1,hx2⟩,hcx⟩:=HF1.out.at_ hv;simp only at hx1 hx2;obtain ⟨rfl,rfl,rfl,rfl⟩:xb=xb'∧xm=xm'∧xi=xi'∧xj=xj':=(by simpa using hx1);subst hAa;have c3:=hcx 3 _ rfl;simp only [NdE] at c3
 have hxj:xj=(t:Int):=by
  have h:=HTO.out;unfold ndAt at h;rw [hx] at h;exact h
 rw [hxj] at c3;have v0:(0:Int)≤(v:Int):=(by omega);have v1:(v:Int) < (fn:Int):=(by omega);have e0:((v:Int)==-1)=false:=(by simp);have e1:¬ (fn:Int)≤(v:Int):=(by omega);have e2:¬ (12:Int) < (t:Int):=(by omega);have e3:¬ (t:Int) < 0:=(by omega);clear hcx hx hx1 hx2 hb1l hxj hb1 HF HL HT HB0 HB1 HAL;dsimp only;have cBF:=BF.cell;have fBF:=BF.frozen;have lBF:=BF.lt;go_upto_region 11 with fail;clear cBF fBF lBF;clear BF c3 e0 e1 e2 e3;have hal:=(Below.refl w1.heap.size w1).al (.cells #[.int .i64 (-1)] 3);have HR:=Lib.hid (repeat_c w1.heap.size t (w1.alloc (.cells #[.int .i64 (-1)] 3)) (by rw [(Blk.new w1 3 #[.int .i64 (-1)]).cell]; rfl) h1 (by omega));have HRL:=Lib.hid hal;clear hal;go_wp2_with fail;refine HR.out.mono ?_;clear HR;rintro e w2 ⟨rfl,hwb,hb2⟩;have hb12:=HRL.out.via hb2;have HB12:=Lib.hid hb12;have HBB:=Lib.hid (HB1'.out.via hb12);have BF:=HBF.out.via hb12;have HBG2:=Lib.hid (HBG.out.via hb12);have HF2:=Lib.hid (HF1.out.via hb12);have HL2:=Lib.hid (HL1.out.via hb12);have HT2:=Lib.hid (HT1.out.via hb12);have hsz:w1.heap.size+1=(w1.alloc (.cells #[.int .i64 (-1)] 3)).heap.size:=(by simp);obtain ⟨bw,hbw⟩:∃ bw,bw=(w1.alloc (.cells #[.int .i64 (-1)] 3)).heap.size:=⟨_,rfl⟩;rw [← hbw] at hwb ⊢;have HWB:=Lib.hid (show Blk w2 bw 3 (((List.replicate t (-1:Int)).map (Value.int .i64)).toArray) by simpa using hwb);have HBL:=Lib.hid (show w1.heap.size < bw by omega);have HFL:=Lib.hid HBF.out.lt;have HBF2:=Lib.hid BF;clear hwb hb2 hb12 hsz hbw HRL HBG2 HF2 HL2 HT2 HBF2;dsimp only;have cBF:=BF.cell;have fBF:=BF.frozen;have lBF:=BF.lt;go_wp2_with fail;clear cBF fBF lBF;clear BF
 go_loopw [54] (fun q wr=>∃ (i:Nat) (cur:List Int),q=.int .i64 (i:Int)∧i≤fn∧Hid (Blk wr bw 3 ((cur.map (Value.int .i64)).toArray)∧cur.length=t∧fillW t (nd.drop i) cur=some ws∧Agr (fun b=>b≠bw) w2 wr∧Below w1.heap.size w2 wr)) (fun q _=>fn - (intOf q).toNat)
 case atStart=>exact ⟨0,_,rfl,Nat.zero_le _,Lib.hid ⟨HWB.out,by simp,by rw [List.drop_zero]; exact HFW.out,Agr.refl,Below.refl _ _⟩⟩
 case round =>
  obtain ⟨i,cur,rfl,hi,HQ⟩:=hrel;clear HWB
  by_cases hin:i < fn
  ·obtain ⟨b3,o3,⟨⟨yb,ym,yi,yj⟩,QA,ql,qc⟩,⟨⟨yb',ym',yi',yj'⟩,qs⟩,hAa,-,hb3,hy,⟨hy1,hy2⟩,hcy⟩:=HF1.out.at_ hin;simp only at hy1 hy2;obtain ⟨rfl,rfl,rfl,rfl⟩:yb=yb'∧ym=ym'∧yi=yi'∧yj=yj':=(by simpa using hy1);cases hAa
   have hbr:=HB12.out.trans HQ.out.2.2.2.2;have c0:=(hbr.cell (p:=⟨b1,o1+i*NdE.k+0,none⟩) hb3).trans (hcy 0 _ rfl);have c1:=(hbr.cell (p:=⟨b1,o1+i*NdE.k+1,none⟩) hb3).trans (hcy 1 _ rfl);have c2:=(hbr.cell (p:=⟨b1,o1+i*NdE.k+2,none⟩) hb3).trans (hcy 2 _ rfl);have c3:=(hbr.cell (p:=⟨b1,o1+i*NdE.k+3,none⟩) hb3).trans (hcy 3 _ rfl);have c4:=(hbr.cell (p:=⟨b1,o1+i*NdE.k+4,none⟩) hb3).trans (hcy 4 _ rfl);simp only [NdE,Nat.add_zero] at c0 c1 c2 c3 c4;have i0:(0:Int)≤(i:Int):=(by omega);have i1:(i:Int) < (fn:Int):=(by omega)
   have HDR:=Lib.hid (show nd.drop i=((yb,ym,yi,yj),qs)::nd.drop (i+1) by
    have h1:=List.getElem?_eq_some_iff.1 hy
    rw [List.drop_eq_getElem_cons h1.1,h1.2])
   have hfq:=HQ.out.2.2.1;rw [HDR.out,fillW] at hfq;simp only at hfq;have hal:=(Below.refl wr.heap.size wr).al (.cells #[.bool yb,.int .i64 ym,.int .i64 yi,.int .i64 yj,.slice QA ql qc] 102);have BN:=Blk.new wr 102 #[.bool yb,.int .i64 ym,.int .i64 yi,.int .i64 yj,.slice QA ql qc];have BWB:=HQ.out.1.via hal;have HAG:=Lib.hid (HQ.out.2.2.2.1.trans (Agr.below hal));have HBE:=Lib.hid (HQ.out.2.2.2.2.trans (hal.mono (by have:=HQ.out.1.lt; have:=HBL.out; omega)));have HCL:=Lib.hid HQ.out.2.1;clear hcy hy hy1 hy2 hb3 hbr hal HQ;cases yb with
   | false =>
    simp only [Bool.false_eq_true,if_false] at hfq;have HFQ:=Lib.hid hfq;have HWB:=Lib.hid BWB;clear hfq BWB;go_upto_region 15 with fail;clear c0 c1 c2 c3 c4;generalize wr.alloc (.cells #[.bool false,.int .i64 ym,.int .i64 yi,.int .i64 yj,.slice QA ql qc] 102)=W9 at *;generalize wr.heap.size=bn at *;have cBN:=BN.cell;have fBN:=BN.frozen;have lBN:=BN.lt;go_wp2_with fail;exact ⟨⟨i+1,cur,by go_num,by omega,Lib.hid ⟨HWB.out,HCL.out,HFQ.out,HAG.out,HBE.out⟩⟩,by simp [intOf]; omega⟩
   | true =>
    simp only [if_true] at hfq
    by_cases hyi:yi < 0∨(t:Int)≤yi
    ·rw [if_pos hyi] at hfq; cases hfq
    ·rw [if_neg hyi] at hfq;obtain ⟨p,rfl⟩:∃ p:Nat,yi=(p:Int):=⟨yi.toNat,by omega⟩;have hpt:p < t:=(by omega);have p0:(0:Int)≤(p:Int):=(by omega);have p1:(p:Int) < (t:Int):=(by omega);rw [Int.toNat_natCast] at hfq;have HFQ:=Lib.hid hfq;have HWB:=Lib.hid BWB;clear hfq hyi;go_upto_region 15 with fail;clear c0 c1 c2 c3 c4;generalize wr.alloc (.cells #[.bool true,.int .i64 ym,.int .i64 (p:Int),.int .i64 yj,.slice QA ql qc] 102)=W9 at *;generalize wr.heap.size=bn at *;have e4:¬ (t:Int)≤(p:Int):=(by omega)
     have hcell:W9.cell? ⟨bw,p,none⟩=some (.int .i64 (cur.getD p 0)):=by
      rw [BWB.cell];have h:=HCL.out;simp [List.getD_eq_getElem?_getD,h,hpt]
     have fW:=BWB.frozen;clear BWB;have cBN:=BN.cell;have fBN:=BN.frozen;have lBN:=BN.lt;go_wp2_with fail;have h2:=HWB.out.set_ p (.int .i64 ym);rw [ints_set] at h2;exact ⟨⟨i+1,cur.set p ym,by go_num,by omega,Lib.hid ⟨h2,by rw [List.length_set]; exact HCL.out,HFQ.out,HAG.out.trans (Agr.setCell (p:=⟨bw,p,none⟩) _ fun b hb=>hb),HBE.out.setCell (p:=⟨bw,p,none⟩) (by show w1.heap.size≤bw; have:=HBL.out; omega) _⟩⟩,by simp [intOf]; omega⟩
  ·obtain rfl:fn=i:=(by omega)
   have hcur:cur=ws:=by
    have h:=HQ.out.2.2.1;rw [List.drop_eq_nil_of_le (by rw [HNL.out]; exact Nat.le_refl _)] at h;exact Option.some.inj h
   subst hcur;have hbr:=HB12.out.trans HQ.out.2.2.2.2;have hcl:=HQ.out.2.1;have hX:Ints wr (some ⟨bw,0,none⟩) t t cur:=Ints.litB HQ.out.1 (by simp) hcl;have hck:=fcheck_c ok okf g Ag ng cg (some ⟨bw,0,none⟩) t t cur (some ⟨b1,o1,none⟩) fn fc ((v:Int),nd) wr HG.out (HL1.out.via hbr) hX h12 HWT.out (HT1.out.via hbr) (HF1.out.via hbr);simp only [grVal] at hck;have HCK:=Lib.hid hck;have BG:=HBG.out.via hbr;have BF:=HBF.out.via hbr;have HB9:=Lib.hid (HB1'.out.via hbr);clear hck hX hbr hcl HQ;have cBG:=BG.cell;have fBG:=BG.frozen;have lBG:=BG.lt;have cBF:=BF.cell;have fBF:=BF.frozen;have lBF:=BF.lt;go_wp2_with fail;clear cBG fBG lBG cBF fBF lBF;clear BG BF;refine HCK.out.mono ?_;rintro e w9 ⟨⟨q,rfl,hq⟩,hb9⟩;have HQA:=Lib.hid hq;have HBF9:=Lib.hid (HB9.out.via hb9);clear hq hb9 HCK
   by_cases hq0:q=0
   ·subst hq0;go_wp2_with fail;go_ret;exact ⟨⟨0,rfl,HQA.out⟩,HBF9.out⟩
   ·have hq1:(q != 0)=true:=(by simpa using hq0);have HQ0:=Lib.hid hq0;clear hq0;go_wp2_with fail;go_ret;exact ⟨⟨q,by rw [if_neg HQ0.out]; rfl,HQA.out⟩,HBF9.out⟩
theorem dbl_chk {q:Int} (h:ChkA dblG 2 [0,0] (foI dblS dblG.rules dblL ((false,0),0,2)) q):q=0:=by
 obtain ⟨fo,b,hf,h⟩:=h;obtain ⟨rfl,rfl⟩:=dbl_fo hf
 rcases h with ⟨h1,-⟩ | ⟨-,-,h2⟩ | ⟨-,h2,-⟩
 ·cases h1
 ·exact h2
 ·exact absurd rfl h2
theorem dbl_fill:fillW 2 (foI dblS dblG.rules dblL ((false,0),0,2)).2 (List.replicate 2 (-1))=some [0,0]:=by decide
theorem dbl_cnt:cntV (foI dblS dblG.rules dblL ((false,0),0,2))=1:=by decide
theorem dbl_to:(ndAt (foI dblS dblG.rules dblL ((false,0),0,2)).2 2).1.2.2.2=((2:Nat):Int):=by decide
theorem dbl_kids:KidsIn (foI dblS dblG.rules dblL ((false,0),0,2)).2:=by
 have h:((foI dblS dblG.rules dblL ((false,0),0,2)).2.all fun x=>x.2.all fun p=>p.2.all fun k=>decide (0≤k)&&decide (k < ((foI dblS dblG.rules dblL ((false,0),0,2)).2.length:Int)))=true:=(by decide);intro x hx p hp k hk;have h1:=List.all_eq_true.1 (List.all_eq_true.1 (List.all_eq_true.1 h x hx) p hp) k hk
 simpa using h1
theorem dbl_foB:FoB (foI dblS dblG.rules dblL ((false,0),0,2)).2 :=
 fo_bound (g:=dblG) (D:=dblS) (n:=2) (most:=20000) (b:=true) dblG_ok.ok (by omega) (fun k h=>by rw [← dvD_dbl] at h; exact dv_le h) (.fits (by decide) dbl_nds (by decide))
set_option maxRecDepth 100000 in
set_option maxHeartbeats 4000000 in
theorem fcount_d (ok okf:Nat→Prop) (Ag:Option Addr) (fA:Option Addr) (fc:Nat) (w:World) (hl:Sl RuE ok w Ag 2 2 dblG.rules) (hT:TabW w) (hf:Sl NdE okf w fA 5 fc (foI dblS dblG.rules dblL ((false,0),0,2)).2) :
 Calls Tryz.prog 18 #[.agg #[.int .i64 1,.int .i64 1,.int .i64 0,.slice Ag 2 2],.agg #[.slice fA 5 fc,.int .i64 2]] w fun e w'=>e=.returned (.tuple #[.int .i64 1,.int .i64 0])∧Below w.heap.size w w':=by
 have hal:=((Below.refl w.heap.size w).al (.cells #[.int .i64 1,.int .i64 1,.int .i64 0,.slice Ag 2 2] 24)).al (.cells #[.slice fA 5 fc,.int .i64 2] 45);have B0:=(Blk.new w 24 #[.int .i64 1,.int .i64 1,.int .i64 0,.slice Ag 2 2]).al (.cells #[.slice fA 5 fc,.int .i64 2] 45);have B1:=Blk.newAt (w.alloc (.cells #[.int .i64 1,.int .i64 1,.int .i64 0,.slice Ag 2 2] 24)) 45 #[.slice fA 5 fc,.int .i64 2] (w.heap.size+1) (by simp);have hva:=valid_w ok okf dblG Ag 2 2 fA 5 fc 2 _ 2 [0,0] _ dblG_ok (hl.via hal) (hT.via hal) (hf.via hal) (by omega) (by omega) dbl_to (by omega) (by omega) dbl_fill (by simp [dblG]);have HF:=Lib.hid (hf.via hal);have HAL:=Lib.hid hal;have HB1:=Lib.hid B1;clear hl hT hf hal;have HVA:Hid (Calls Tryz.prog 53 #[.agg #[.int .i64 1,.int .i64 1,.int .i64 0,.slice Ag 2 2],.agg #[.slice fA 5 fc,.int .i64 2]] _ _):=Lib.hid hva;clear hva;go_enter Tryz.func18,Tryz.ntmps18;have cB0:=B0.cell;have fB0:=B0.frozen;have lB0:=B0.lt;have cB1:=B1.cell;have fB1:=B1.frozen;have lB1:=B1.lt;go_wp2_with fail;clear cB0 fB0 lB0 cB1 fB1 lB1;clear B0 B1;generalize (w.alloc (.cells #[.int .i64 1,.int .i64 1,.int .i64 0,.slice Ag 2 2] 24)).alloc (.cells #[.slice fA 5 fc,.int .i64 2] 45)=W at *;refine HVA.out.mono ?_;clear HVA;rintro e w1 ⟨⟨q,rfl,hq⟩,hb⟩
 have hq0:q=0:=by
  have h1:=dbl_root;refine dbl_chk ?_;have e:(foI dblS dblG.rules dblL ((false,0),0,2))=(((2:Nat):Int),(foI dblS dblG.rules dblL ((false,0),0,2)).2):=Prod.ext h1 rfl;rw [e]; exact hq
 subst hq0;have HB:=Lib.hid (HAL.out.via hb);have B2:=HB1.out.via hb;have HCN:=Lib.hid (count_c okf fA 5 fc 2 _ w1 (HF.out.via hb) dbl_kids dbl_foB (by omega) (by omega));clear hq hb HAL HB1 HF;simp only [if_true];have cB2:=B2.cell;have fB2:=B2.frozen;have lB2:=B2.lt;go_wp2_with fail;clear cB2 fB2 lB2;clear B2;refine HCN.out.mono ?_;clear HCN;rintro e w2 ⟨rfl,hb⟩;have HB2:=Lib.hid (HB.out.via hb)
 have hc:cntV (2,(foI dblS dblG.rules dblL ((false,0),0,2)).2)=1:=by
  have e:(foI dblS dblG.rules dblL ((false,0),0,2))=(2,(foI dblS dblG.rules dblL ((false,0),0,2)).2):=Prod.ext dbl_root rfl;rw [← e]; exact dbl_cnt
 rw [hc];clear hb hc;go_wp2_with fail;go_ret2;exact ⟨rfl,HB2.out⟩
end Go.Proofs.YtfcihnpmeabacaaGreatDoor
