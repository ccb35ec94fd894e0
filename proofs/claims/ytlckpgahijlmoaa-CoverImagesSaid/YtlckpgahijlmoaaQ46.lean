/- group's Of: the walk forth around an edge. -/
import Derived.Test.YtlckpgahijlmoaaQ41
import Derived.Test.YtlckpgahijlmoaaQ45
import Derived.Test.YtlckpgahijlmoaaQ35
import Derived.Test.YtlckpgahijlmoaaQ22
import Derived.Test.YtlckpgahijlmoaaQ40
import Derived.Test.YtlckpgahijlmoaaQ26
set_option maxRecDepth 100000
set_option maxHeartbeats 8000000
namespace Go.Proofs.Ytlckpgahijlmoaa
section
open Go.RowKit Go.Shelf Go.Maps
def ltrs (G:Gl)(pre:List RB):List Int:=(pre.map fun x=>ltrI G (4*x.1.1+rp x.1 2)).filter (·≠0)
theorem ltrs_snoc (G:Gl)(pre:List RB)(x:RB):ltrs G (pre++[x])=ltrs G pre++(if ltrI G (4*x.1.1+rp x.1 2)≠0 then [ltrI G (4*x.1.1+rp x.1 2)] else []):=by
 unfold ltrs
 rw[List.map_append,List.filter_append]
 by_cases e:ltrI G (4*x.1.1+rp x.1 2)=0<;>simp[e]
theorem ltrs_pth (G:Gl)(s:RS)(m:Nat):ltrs G (pthB G s m)=gwrd G s m:=by
 unfold ltrs gwrd pthB
 rw[List.map_map];rfl
theorem ltrs_len (G:Gl)(pre:List RB):(ltrs G pre).length≤pre.length:=by
 unfold ltrs
 exact Nat.le_trans (List.length_filter_le _ _) (by simp)
def edq (u:RS):Nat×Nat:=(u.1,edN u.2.1 u.2.2.1)
def mtB (mt:Nat×Nat→Bool)(pre:List RB)(p:Nat×Nat):Bool:=mt p || pre.any fun x=>decide (edq x.1=p)
theorem mtB_nil (mt:Nat×Nat→Bool)(p:Nat×Nat):mtB mt [] p=mt p:=by simp[mtB]
theorem mtB_snoc (mt:Nat×Nat→Bool)(pre:List RB)(x:RB)(p:Nat×Nat):mtB mt (pre++[x]) p=(mtB mt pre p || decide (p=edq x.1)):=by
 unfold mtB
 simp only[List.any_append,List.any_cons,List.any_nil,Bool.or_false,Bool.or_assoc]
 congr 2
 rw[decide_eq_decide];exact⟨fun h=>h.symm,fun h=>h.symm⟩
def mD (mt:Nat×Nat→Bool)(p:Nat×Nat):Option Bool:=if mt p=true then some true else none
def bv (b:Bool):Value:=.bool b
theorem mD_put (mt:Nat×Nat→Bool)(pre:List RB)(x:RB)(p:Nat×Nat):(if p=edq x.1 then some true else mD (mtB mt pre) p)=mD (mtB mt (pre++[x])) p:=by
 unfold mD
 rw[mtB_snoc]
 by_cases h:p=edq x.1
 ·simp[h]
 ·simp[h]
theorem und134:Try.prog.underlying 134=some (.map 82 4):=by kernel_rfl
theorem wp_put {α β:Type}[DecidableEq α]{W:World}{k e:TypeId}{ok:α→Prop}{κ:α→Value}{ν:β→Value}{b n:Nat}{D:α→Option β}{o:Oper}{act:Act}{K:Act→World→Prop}{Q:Exit→Act→World→Prop}(t:TypeId)(m x v:Operand)(hop:o.op=Op.mapUpdate t m x v)
  (C:Codes k ok κ) (ht:Try.prog.underlying t=some (.map k e)) (h:MapIs W k ok κ ν b n D) (a:α) (ha:ok a) (c:β) (hm:act.eval m=.map (some b)) (hx:act.eval x=κ a) (hv:act.eval v=ν c)
  (hK:∀W',MapIs W' k ok κ ν b (if (D a).isSome then n else n+1) (fun x=>if x=a then some c else D x)→W.grownBy W' (some b)→W'.heap.size=W.heap.size→K (act.put o.dst undef) W') :
  o.wp Try.prog act W K Q:=by
 obtain⟨W',hrun,r1,r2,r3⟩:=h.update C ht a ha c
 unfold Oper.wp
 simp[execOp,hop,hm,hx,hv,hrun,Result.andThen]
 exact hK W' r1 r2 r3
def lv (ls:List Int):List Value:=ls.map fun x=>.int .i64 x
structure OI (W0:World)(R H Mb:Nat)(ls:List Int)(wh:Bool)(mt:Nat×Nat→Bool)(W:World):Prop where
 os:W.os=W0.os
 tape:W.tape=W0.tape
 output:W.output=W0.output
 size:W0.heap.size≤W.heap.size
 blk:∀k,k<W0.heap.size→k≠R→k≠H→k≠Mb→W.heap[k]?=W0.heap[k]?
 word:∃v,W.cell? ⟨R,0,none⟩=some v∧W.ownsRow W0.heap.size 3 1 v ls.length (lv ls)
 wf:W.frozen? ⟨R,0,none⟩=false
 wh:W.cell? ⟨H,0,none⟩=some (.bool wh)
 hf:W.frozen? ⟨H,0,none⟩=false
 map:∃nn,MapIs W 82 okp kp bv Mb nn (mD mt)
structure Three (W0:World)(N R H Mb:Nat):Prop where
 lR:R<W0.heap.size
 lH:H<W0.heap.size
 lM:Mb<W0.heap.size
 RH:R≠H
 RM:R≠Mb
 HM:H≠Mb
 nR:N≤R
 nH:N≤H
 nM:N≤Mb
section
variable {W0 W W':World}{N R H Mb:Nat}{ls:List Int}{wh:Bool}{mt:Nat×Nat→Bool}
theorem OI.fresh {row:Option Nat}(T:Three W0 N R H Mb)(h:OI W0 R H Mb ls wh mt W)(hg:W.grownBy W' row)(hr:∀r,row=some r→W0.heap.size≤r∧∀v,W.cell? ⟨R,0,none⟩=some v→v.ownBlock≠some r):OI W0 R H Mb ls wh mt W':=by
 obtain⟨v,hv,ho⟩:=h.word
 obtain⟨nn,hm⟩:=h.map
 have ne:∀i,i<W0.heap.size→some i≠row:=fun i hi e=>by have:=(hr i e.symm).1;omega
 refine⟨hg.os.trans h.os,hg.tape.trans h.tape,hg.output.trans h.output,Nat.le_trans h.size hg.size,fun k hk a b c=>(hg.block k (Nat.lt_of_lt_of_le hk h.size) (ne k hk)).trans (h.blk k hk a b c),
  ⟨v,hg.cell hv (ne _ T.lR),ho.kept hg ?_⟩,(hg.frozen_far ⟨R,0,none⟩ (Nat.lt_of_lt_of_le T.lR h.size) (ne _ T.lR)).trans h.wf,hg.cell h.wh (ne _ T.lH),(hg.frozen_far ⟨H,0,none⟩ (Nat.lt_of_lt_of_le T.lH h.size) (ne _ T.lH)).trans h.hf,⟨nn,hm.kept hg (ne _ T.lM)⟩⟩
 cases hq:v.ownBlock with
 | none=>exact .inl rfl
 | some j=>exact .inr (fun e=>(hr j e.symm).2 v hv hq)
theorem OI.still (T:Three W0 N R H Mb)(h:OI W0 R H Mb ls wh mt W)(hg:W.grownBy W' none):OI W0 R H Mb ls wh mt W':=h.fresh T hg (fun r e=>by cases e)
theorem OI.row (h:OI W0 R H Mb ls wh mt W){v:Value}(hv:W.cell? ⟨R,0,none⟩=some v){j:Nat}(hj:v.ownBlock=some j):W0.heap.size≤j∧j<W.heap.size∧∃c t f,W.heap[j]?=some (.cells c t f):=by
 obtain⟨v',hv',ho⟩:=h.word
 rw[hv] at hv'
 cases hv'
 rcases ho.2 with ⟨e,_⟩ | ⟨g',cap',cur,e,hb,hgg,_⟩
 ·rw[e] at hj;simp[Value.ownBlock] at hj
 ·rw[e] at hj
  simp[Value.ownBlock] at hj
  subst hj
  exact⟨hb,(Array.getElem?_eq_some_iff.1 hgg).1,_,_,_,hgg⟩
theorem OI.meet (T:Three W0 N R H Mb)(h:OI W0 R H Mb ls wh mt W)(hg:W.grownBy W' (some Mb)){mt':Nat×Nat→Bool}(hm:∃nn,MapIs W' 82 okp kp bv Mb nn (mD mt')):OI W0 R H Mb ls wh mt' W':=by
 obtain⟨v,hv,ho⟩:=h.word
 have nR:some R≠some Mb:=by simpa using T.RM
 have nH:some H≠some Mb:=by simpa using T.HM
 refine⟨hg.os.trans h.os,hg.tape.trans h.tape,hg.output.trans h.output,Nat.le_trans h.size hg.size,fun k hk a b c=>(hg.block k (Nat.lt_of_lt_of_le hk h.size) (by simpa using c)).trans (h.blk k hk a b c),
  ⟨v,hg.cell hv nR,ho.kept hg ?_⟩,(hg.frozen_far ⟨R,0,none⟩ (Nat.lt_of_lt_of_le T.lR h.size) nR).trans h.wf,hg.cell h.wh nH,(hg.frozen_far ⟨H,0,none⟩ (Nat.lt_of_lt_of_le T.lH h.size) nH).trans h.hf,hm⟩
 cases hq:v.ownBlock with
 | none=>exact .inl rfl
 | some j=>exact .inr (fun e=>by have:=(h.row hv hq).1;have:=T.lM;cases e;omega)
theorem OI.flag (T:Three W0 N R H Mb)(h:OI W0 R H Mb ls wh mt W)(b:Bool):OI W0 R H Mb ls b mt (W.setCell ⟨H,0,none⟩ (.bool b)):=by
 obtain⟨v,hv,ho⟩:=h.word
 obtain⟨nn,hm⟩:=h.map
 have hg:=za1 W H 0 (.bool b)
 have nR:some R≠some H:=by simpa using T.RH
 refine⟨hg.os.trans h.os,hg.tape.trans h.tape,hg.output.trans h.output,Nat.le_trans h.size hg.size,fun k hk a b c=>(hg.block k (Nat.lt_of_lt_of_le hk h.size) (by simpa using b)).trans (h.blk k hk a b c),
  ⟨v,hg.cell hv nR,ho.kept hg ?_⟩,(hg.frozen_far ⟨R,0,none⟩ (Nat.lt_of_lt_of_le T.lR h.size) nR).trans h.wf,World.cell?_setCell_same _ _ _ h.wh,by rw[World.frozen?_setCell];exact h.hf,⟨nn,hm.kept hg (by simpa using T.HM.symm)⟩⟩
 cases hq:v.ownBlock with
 | none=>exact .inl rfl
 | some j=>exact .inr (fun e=>by have:=(h.row hv hq).1;have:=T.lH;cases e;omega)
theorem spare2_of {A B:World}(hb:Below N A B)(hblk:∀k c t f,A.heap[k]?=some (.cells c t f)→k≠R→k≠H→(∀v,A.cell? ⟨R,0,none⟩=some v→v.ownBlock≠some k)→B.heap[k]?=A.heap[k]?)
  (hrow:∀u,B.cell? ⟨R,0,none⟩=some u→∀i,u.ownBlock=some i→(A.heap.size≤i∧i<B.heap.size)∨∃v,A.cell? ⟨R,0,none⟩=some v∧v.ownBlock=some i):zg8 R H N A B:=by
 refine⟨hb,fun i c t f hi hn hH=>hblk i c t f hi hn.1 hH hn.2,fun i hi hn=>⟨hn.1,fun u hu e=>?_⟩,fun hf u hu i hi=>?_⟩
 ·rcases hrow u hu i e with h | ⟨v,h1,h2⟩
  ·omega
  ·exact hn.2 v h1 h2
 ·rcases hrow u hu i hi with h | ⟨v,h1,h2⟩
  ·exact h.2
  ·exact Nat.lt_of_lt_of_le (hf v h1 i h2) hb.size
theorem spare2_grown {A B:World}(hg:A.grownBy B none)(hR:R<A.heap.size)(hN:N≤A.heap.size):zg8 R H N A B:=
 spare2_of ((Below.refl N A).grown hg hN (fun k e=>by cases e)) (fun k c t f hk _ _ _=>hg.block k (Array.getElem?_eq_some_iff.1 hk).1 (by simp)) (fun u hu i hi=>.inr ⟨u,(hg.cell_far ⟨R,0,none⟩ hR (by simp)).symm.trans hu,hi⟩)
theorem OI.spare_meet (T:Three W0 N R H Mb)(h:OI W0 R H Mb ls wh mt W)(hg:W.grownBy W' (some Mb)):zg8 R H N W W':=by
 have hs:=h.size
 have nR:some R≠some Mb:=by simpa using T.RM
 refine spare2_of ((Below.refl N W).grown hg (by have:=T.nR;have:=T.lR;omega) (fun k e=>by cases e;exact T.nM)) (fun k c t f hk h1 h2 _=>hg.block k (Array.getElem?_eq_some_iff.1 hk).1 (fun e=>?_)) (fun u hu i hi=>.inr ⟨u,(hg.cell_far ⟨R,0,none⟩ (Nat.lt_of_lt_of_le T.lR hs) nR).symm.trans hu,hi⟩)
 cases e
 obtain⟨nn,es,clock,hb,_⟩:=h.map
 rw[hb] at hk;cases hk
theorem OI.spare_flag (T:Three W0 N R H Mb)(h:OI W0 R H Mb ls wh mt W)(b:Bool):zg8 R H N W (W.setCell ⟨H,0,none⟩ (.bool b)):=by
 have hg:=za1 W H 0 (.bool b)
 have hs:=h.size
 have nR:some R≠some H:=by simpa using T.RH
 exact spare2_of ((Below.refl N W).grown hg (by have:=T.nR;have:=T.lR;omega) (fun k e=>by cases e;exact T.nH)) (fun k c t f hk h1 h2 _=>hg.block k (Array.getElem?_eq_some_iff.1 hk).1 (by simpa using h2)) (fun u hu i hi=>.inr ⟨u,(hg.cell_far ⟨R,0,none⟩ (Nat.lt_of_lt_of_le T.lR hs) nR).symm.trans hu,hi⟩)
theorem OI.push {w1:World}{x:Int}{ga:Option Addr}{cp g cap:Nat}{o:Obj}(T:Three W0 N R H Mb)(h:OI W0 R H Mb ls wh mt W)(hv:W.cell? ⟨R,0,none⟩=some (.slice ga ls.length cp))
  (hown:w1.ownsRow W0.heap.size 3 1 (.slice (some ⟨g,0,none⟩) (ls.length+1) cap) (ls.length+1) (lv ls++[.int .i64 x]))
  (hgrow:(W.alloc o).grownBy w1 (Value.slice ga ls.length cp).ownBlock) (hat:(Value.slice ga ls.length cp).ownBlock=some g∨g=W.heap.size+1) (hlt:g<w1.heap.size) :
  KeepsFrom W0.heap.size W (w1.setCell ⟨R,0,none⟩ (.slice (some ⟨g,0,none⟩) (ls.length+1) cap))∧zg8 R H N W (w1.setCell ⟨R,0,none⟩ (.slice (some ⟨g,0,none⟩) (ls.length+1) cap)) ∧
   OI W0 R H Mb (ls++[x]) wh mt (w1.setCell ⟨R,0,none⟩ (.slice (some ⟨g,0,none⟩) (ls.length+1) cap)):=by
 have hal:=World.grownBy_alloc W o none
 have hsc:=za1 w1 R 0 (.slice (some ⟨g,0,none⟩) (ls.length+1) cap)
 have hW:=h.size
 have hal2:=hal.size
 have hgs:=hgrow.size
 have hws:(w1.setCell ⟨R,0,none⟩ (.slice (some ⟨g,0,none⟩) (ls.length+1) cap)).heap.size=w1.heap.size:=by simp
 have hob:=fun k hk=>h.row (j:=k) hv hk
 have hTR:=T.lR
 have hTH:=T.lH
 have hTM:=T.lM
 have hTn:=T.nR
 have far:∀i,i<W.heap.size→i≠R→(Value.slice ga ls.length cp).ownBlock≠some i→(w1.setCell ⟨R,0,none⟩ (.slice (some ⟨g,0,none⟩) (ls.length+1) cap)).heap[i]?=W.heap[i]?:=fun i hi hne hno=>
  (hsc.block i (by omega) (by simpa using hne)).trans ((hgrow.block i (by omega) (fun e=>hno e.symm)).trans (hal.block i hi (by simp)))
 have old:∀i,i<W0.heap.size→(Value.slice ga ls.length cp).ownBlock≠some i:=fun i hi e=>by have:=(hob i e).1;omega
 have hne1:(some R:Option Nat)≠(Value.slice ga ls.length cp).ownBlock:=fun e=>old R hTR e.symm
 have hcR:(w1.setCell ⟨R,0,none⟩ (.slice (some ⟨g,0,none⟩) (ls.length+1) cap)).cell? ⟨R,0,none⟩=some (.slice (some ⟨g,0,none⟩) (ls.length+1) cap):=
  World.cell?_setCell_same _ _ _ (hgrow.cell (hal.cell hv (by simp)) hne1)
 have hgR:g≠R:=by
  rcases hat with e | e
  ·have:=(hob g e).1;omega
  ·omega
 have blkof:∀{i v o2},i<W0.heap.size→i≠R→W.cell? ⟨i,o2,none⟩=some v→(w1.setCell ⟨R,0,none⟩ (.slice (some ⟨g,0,none⟩) (ls.length+1) cap)).cell? ⟨i,o2,none⟩=some v:=fun hi hne hc=>
  (World.cell?_of_block (a:=⟨_,_,none⟩) (far _ (Nat.lt_of_lt_of_le hi hW) hne (old _ hi))).trans hc
 obtain⟨nn,hm⟩:=h.map
 refine⟨⟨by omega,fun k ob hk hob2 hc=>?_⟩,spare2_of ?_ (fun k c t f hk h1 h2 h3=>far k (Array.getElem?_eq_some_iff.1 hk).1 h1 (h3 _ hv)) (fun u hu i hi=>?_),⟨?_,?_,?_,by omega,fun k hk a b c=>?_,⟨_,hcR,?_⟩,?_,blkof hTH T.RH.symm h.wh,?_,⟨nn,hm.of_block (far Mb (by omega) T.RM.symm (old _ hTM))⟩⟩⟩
 ·rw[far k (Array.getElem?_eq_some_iff.1 hob2).1 (by omega) (fun e=>?_)]
  ·exact hob2
  ·obtain⟨c,t,f,e2⟩:=(hob k e).2.2
   rw[e2] at hob2;cases hob2;simp[Obj.isCells] at hc
 ·refine ((((Below.refl N W).alloc (by omega) o).grown hgrow (by omega) (fun k hk=>by have:=(hob k hk).1;omega))).setCell hTn _
 ·rw[hcR] at hu
  cases hu
  simp only[Value.ownBlock,Option.some.injEq] at hi
  subst hi
  rcases hat with q | q
  ·exact .inr ⟨_,hv,q⟩
  ·exact .inl ⟨by omega,by omega⟩
 ·exact hsc.os.trans (hgrow.os.trans (hal.os.trans h.os))
 ·exact hsc.tape.trans (hgrow.tape.trans (hal.tape.trans h.tape))
 ·exact hsc.output.trans (hgrow.output.trans (hal.output.trans h.output))
 ·exact (far k (by omega) a (old k hk)).trans (h.blk k hk a b c)
 ·rw[List.length_append,lv,List.map_append]
  exact hown.kept hsc (.inr (by simp only[Value.ownBlock,ne_eq,Option.some.injEq];exact hgR))
 ·rw[World.frozen?_setCell]
  exact (hgrow.frozen_far ⟨R,0,none⟩ (by show R<_;omega) hne1).trans ((hal.frozen_far ⟨R,0,none⟩ (by show R<_;omega) (by simp)).trans h.wf)
 ·obtain⟨c,t,f,e⟩:=zc7 h.wh
  exact (World.frozen?_of_block (w:=W) (a:=⟨H,0,none⟩) (far H (by omega) T.RH.symm (old _ hTH))).trans h.hf
theorem OI.abides (T:Three W0 N R H Mb){β:Type}(I:β→List Int×Bool×(Nat×Nat→Bool)):AbidesOk (fun W i=>zc3 R W i∧i≠H) (fun _=>False) W0.heap.size (fun (pre:β) W=>OI W0 R H Mb (I pre).1 (I pre).2.1 (I pre).2.2 W):=
 fun _pre _W _W' _row h hg hr=>h.fresh T hg (fun r e=>⟨(hr r e).1.resolve_right id,fun v hv=>(hr r e).2.1.2 v hv⟩)
theorem OI.own (T:Three W0 N R H Mb){β:Type}(I:β→List Int×Bool×(Nat×Nat→Bool)):OwnFrom W0.heap.size (fun (pre:β) W=>OI W0 R H Mb (I pre).1 (I pre).2.1 (I pre).2.2 W):=
 fun pre W W' row h hg hr=>h.fresh T hg (fun r e=>⟨(hr r e).1,fun v hv hq=>by
  obtain⟨o,ho,hc⟩:=(hr r e).2
  obtain⟨-,-,c,t,f,e2⟩:=h.row hv hq
  rw[e2] at ho
  cases ho
  simp[Obj.isCells] at hc⟩)
end
end
section
open Go.RowKit Go.Shelf Go.Maps
attribute [local go_sem] Oper.semAt_some
theorem frame130 (tm:Array Value)(h:tm.size=130):∃u:Nat→Value,tm=#[u 0,u 1,u 2,u 3,u 4,u 5,u 6,u 7,u 8,u 9,u 10,u 11,u 12,u 13,u 14,u 15,u 16,u 17,u 18,u 19,u 20,u 21,u 22,u 23,u 24,u 25,u 26,u 27,u 28,u 29,u 30,u 31,u 32,u 33,u 34,u 35,u 36,u 37,u 38,u 39,u 40,u 41,u 42,u 43,u 44,u 45,u 46,u 47,u 48,u 49,u 50,u 51,u 52,u 53,u 54,u 55,u 56,u 57,u 58,u 59,u 60,u 61,u 62,u 63,u 64,u 65,u 66,u 67,u 68,u 69,u 70,u 71,u 72,u 73,u 74,u 75,u 76,u 77,u 78,u 79,u 80,u 81,u 82,u 83,u 84,u 85,u 86,u 87,u 88,u 89,u 90,u 91,u 92,u 93,u 94,u 95,u 96,u 97,u 98,u 99,u 100,u 101,u 102,u 103,u 104,u 105,u 106,u 107,u 108,u 109,u 110,u 111,u 112,u 113,u 114,u 115,u 116,u 117,u 118,u 119,u 120,u 121,u 122,u 123,u 124,u 125,u 126,u 127,u 128,u 129]∧∀i,i<130→tm[i]?=some (u i):=by
 refine⟨fun i=>tm.getD i undef,(range_getD tm 130 h).trans rfl,fun i hi=>?_⟩
 simp[Array.getElem?_eq_getElem (show i<tm.size by omega)]
def cThn:Code→Code
 | .cond _ a _=>a
 | c=>c
def kTet (f:Func):Code:=cIn (cL (cR (cR (cIn (cIn (cR (cL (cR (cR (cR (cR (cR (cR (f.body.getD .skip))))))))))))))
def kOne (f:Func):Code:=cIn (cL (cR (cR (cIn (cIn (cR (cR (kTet f))))))))
def kThen (f:Func):Code:=cR (cR (cR (cR (cR (cR (kOne f))))))
def kForth (f:Func):Code:=cIn (cR (cL (cR (cR (cR (cR (cR (kOne f))))))))
def kBack (f:Func):Code:=cIn (cR (cL (cThn (cR (cL (kThen f))))))
theorem of_range {P:Program}{Q:Exit→Act→World→Prop}{a:Act}{w:World}{c ca bd:Code}{g:Operand}{ps:Array Tmp}(h:c=Code.rangeFunc g ps ca bd)(hw:(Code.rangeFunc g ps ca bd).wp P Q a w):c.wp P Q a w:=h▸hw
def RVar2 {G:Gl}(A:Act)(K:Nat)(x:RKg G)(a':Act)(W:World):Prop:=
 ∃b,C5 W b x.1.1∧K≤b∧(∀o,W.frozen? ⟨b,o,none⟩=false)∧a'={ tmps:=(((A.tmps.setIfInBounds 72 (.agg (zb6 x.1.1))).setIfInBounds 73 (.bool x.1.2)).setIfInBounds 17 (.pointer (some ⟨b,0,none⟩))).setIfInBounds 18 (.bool x.1.2),defers:=[] }
theorem RVar2.own {G:Gl}{A:Act}{K:Nat}{x:RKg G}{a':Act}:OwnFrom K (fun (_:Unit) W=>RVar2 A K x a' W):=fun _ X Y row h hg hr=>by
 obtain⟨b,hc,hb,hf,e⟩:=h
 have hne:some b≠row:=fun q=>by
  obtain⟨o,ho,hcs⟩:=(hr b q.symm).2
  obtain⟨c,t,f,hh⟩:=zc7 hc.1
  rw[hh] at ho
  cases ho
  simp[Obj.isCells] at hcs
 exact⟨b,hc.kept hg hne,hb,fun o=>(hg.frozen_far ⟨b,o,none⟩ hc.lt hne).trans (hf o),e⟩
theorem spare2_put {R H N:Nat}{W:World}{l:Nat}{r r':Loop}(hN:N≤l)(hR:R<l)(h:W.heap[l]?=some (.loop r)):zg8 R H N W (W.putObj l (.loop r')):=by
 have hlt:l<W.heap.size:=(Array.getElem?_eq_some_iff.1 h).1
 have hg:W.grownBy (W.putObj l (.loop r')) (some l):=grownBy_putObj' W l _
 refine spare2_of ((Below.refl N W).grown hg (by omega) (fun k e=>by cases e;exact hN)) (fun k c t f hk _ _ _=>hg.block k (Array.getElem?_eq_some_iff.1 hk).1 (fun e=>?_)) (fun u hu i hi=>.inr ⟨u,(hg.cell_far ⟨R,0,none⟩ (by show R<_;omega) (by simp;omega)).symm.trans hu,hi⟩)
 cases e;rw[h] at hk;cases hk
theorem wpIn_named {F:Fence}{n:Nat}{P:Program}{c:Code}{Q:Exit→Act→World→Prop}{a:Act}{w:World}(h:∀W,W=w→c.wpIn F n P Q a W):c.wpIn F n P Q a w:=h w rfl
structure WK (W:World)(N R H Mb Mx Cb o:Nat)(v:Value)(G:Gl):Prop where
 T:Three W N R H Mb
 gl:GlAt N W v G
 mx:W.cell? ⟨Mx,0,none⟩=some (.map (some Mb))
 cb:W.cell? ⟨Cb,0,none⟩=some (.slice (some ⟨o,0,none⟩) G.n G.n)
 row:W.rowIs o 84 (4*G.n) (fun k=>.int .i64 (ltrI G k))
 n1:Mx≠R∧Mx≠H∧Cb≠R∧Cb≠H∧o≠R∧o≠H
theorem OI.far {W0 W:World}{R H Mb:Nat}{ls:List Int}{wh:Bool}{mt:Nat×Nat→Bool}(h:OI W0 R H Mb ls wh mt W)(hM:∀c t f,W0.heap[Mb]?≠some (.cells c t f)){i o:Nat}{x:Value}(hc:W0.cell? ⟨i,o,none⟩=some x)(h1:i≠R)(h2:i≠H):W.cell? ⟨i,o,none⟩=some x:=by
 obtain⟨c,t,f,e⟩:=zc7 hc
 refine (World.cell?_of_block (a:=⟨i,o,none⟩) (h.blk i (Array.getElem?_eq_some_iff.1 e).1 h1 h2 (fun q=>?_))).trans hc
 subst q;exact hM _ _ _ e
theorem forth_walk {G:Gl}(hok:za9 G=true)(hr:∀i,i<nE G→revK G (6*G.n) i=false){s:RS}(hs:Rok G.n s){m:Nat}(hm:WalkN G s m)(hmb:m≤600000){W:World}{N R H Mb Mx Cb o Bf Bg:Nat}{v:Value}{mt:Nat×Nat→Bool}(hK:WK W N R H Mb Mx Cb o v G)
  (hM:∃nn,MapIs W 82 okp kp bv Mb nn (mD mt)) (hR0:W.cell? ⟨R,0,none⟩=some (.slice none 0 0)) (hRf:W.frozen? ⟨R,0,none⟩=false) (hH0:W.cell? ⟨H,0,none⟩=some (.bool true)) (hHf:W.frozen? ⟨H,0,none⟩=false)
  (hf:C5 W Bf s) (hg:W.cell? ⟨Bg,0,none⟩=some v) (hB:Bf≠R∧Bf≠H∧Bg≠R∧Bg≠H)
  (tm:Array Value) (ds:List Deferred) (hsz:tm.size=130) (s7:tm[7]?=some (.pointer (some ⟨Cb,0,none⟩))) (s10:tm[10]?=some (.pointer (some ⟨Mx,0,none⟩))) (s15:tm[15]?=some (.pointer (some ⟨R,0,none⟩))) (s16:tm[16]?=some (.pointer (some ⟨H,0,none⟩)))
  (s71:tm[71]?=some (.func (.func 110) #[] #[.pointer (some ⟨Bf,0,none⟩),.pointer (some ⟨Bg,0,none⟩)])) {Q:Exit→Act→World→Prop}
  (hdone:∀D W',W.heap.size≤D→W'.heap[D]?=some (.deferred (some []))→OI W R H Mb (gwrd G s m) ((pthB G s m).all (·.2)) (mtB mt (pthB G s m)) W'→Q .normal { tmps:=tm,defers:={ target:=.collected D,args:=#[] } :: ds } W') :
  (kForth Try.f38).wp Try.prog Q { tmps:=tm,defers:=ds } W:=by
 refine of_range rfl ?_
 have HQ:=Lib.hid hdone
 have hT:=hK.T
 have hMc:∀c t f,W.heap[Mb]?≠some (.cells c t f):=fun c t f e=>by
  obtain⟨nn,es,cl,hb,_⟩:=hM
  rw[hb] at e;cases e
 have hRI:=gring_iter hok hr hs 5 (by omega) v W N Bf Bg R H (by have:=hT.nR;have:=hT.lR;omega) hK.gl hf hg ⟨hB.1,fun x hx=>by rw[hR0] at hx;cases hx;simp[Value.ownBlock]⟩ ⟨hB.2.2.1,fun x hx=>by rw[hR0] at hx;cases hx;simp[Value.ownBlock]⟩ hB.2.1 hB.2.2.2 hT.lH hT.lR (fun x hx=>by rw[hR0] at hx;cases hx;simp[Value.ownBlock]) m hm
 have HRI:=Lib.hid hRI
 have hI0:OI W R H Mb [] true (mtB mt []) W:=⟨rfl,rfl,rfl,Nat.le_refl _,fun _ _ _ _ _=>rfl,⟨_,hR0,World.ownsRow_nil _ _ _ _⟩,hRf,hH0,hHf,by
  obtain⟨nn,hm⟩:=hM;exact⟨nn,hm.congr (fun p=>by unfold mD;rw[mtB_nil])⟩⟩
 have HI0:=Lib.hid hI0
 have HC:=Hd3 hok hK hMc
 obtain⟨u,hu,-⟩:=frame130 tm hsz
 subst hu
 have e7:u 7=.pointer (some ⟨Cb,0,none⟩):=Option.some.inj s7
 have e10:u 10=.pointer (some ⟨Mx,0,none⟩):=Option.some.inj s10
 have e15:u 15=.pointer (some ⟨R,0,none⟩):=Option.some.inj s15
 have e16:u 16=.pointer (some ⟨H,0,none⟩):=Option.some.inj s16
 have e71:u 71=.func (.func 110) #[] #[.pointer (some ⟨Bf,0,none⟩),.pointer (some ⟨Bg,0,none⟩)]:=Option.some.inj s71
 have hRW:=hT.lR
 have hNW:N≤W.heap.size:=by have:=hT.nR;omega
 clear s7 s10 s15 s16 s71 hdone hRI hI0 hK hM hR0 hRf hH0 hHf hf hg hB hMc hok hr
 refine act_named fun A hA=>?_
 refine (wpIn_wide (n:=6)).1 ?_
 refine zg4 (by omega) (gf:=110) (lb:=#[.pointer (some ⟨Bf,0,none⟩),.pointer (some ⟨Bg,0,none⟩)]) (by rw[hA];exact e71) (enters_of Try.func110 (by kernel_rfl) rfl) HRI.out (fun _ h=>h.elim) zg8.trans (fun W l r r' hl h=>spare2_put (by omega) (by omega) h) (Below.refl _ _) (fun _=>rfl)
  (fun (pre:List (RKg G)) W1=>OI W R H Mb (ltrs G (pre.map (·.1))) ((pre.map (·.1)).all (·.2)) (mtB mt (pre.map (·.1))) W1) (fun _ _=>False) (fun _ _ _=>trivial) (OI.own hT (fun (pre:List (RKg G))=>(ltrs G (pre.map (·.1)),(pre.map (·.1)).all (·.2),mtB mt (pre.map (·.1))))) (fun _ _ _ _ h _ _=>h.elim) (OI.abides hT (fun (pre:List (RKg G))=>(ltrs G (pre.map (·.1)),(pre.map (·.1)).all (·.2),mtB mt (pre.map (·.1))))) (fun _ _ _ _ h _ _=>h.elim)
  HI0.out (fun x a' W1=>RVar2 A W.heap.size x a' W1) (fun x a'=>RVar2.own) ?assign ?body ?done ?stop
 case stop=>
  rintro D pre W7 _ _ h _
  exact h.elim
 case done=>
  rintro D xs W7 hD hS hI hKD
  rw[hS,ltrs_pth] at hI
  rw[hA]
  exact HQ.out D W7 hD hKD hI
 case assign=>
  rintro l pre x W7 K hI hK
  have HK:=Lib.hid hK;clear hK
  have HI7:=Lib.hid hI;clear hI
  subst hA
  unfold encB zb6
  gi_wp2
  have hsz7:=HI7.out.size
  have hal:=World.grownBy_alloc W7 (.cells (zb6 x.1.1) 136) none
  exact HK.out _ _ (zg2 ((Below.refl _ W7).alloc (Nat.le_refl _) _)) (spare2_grown hal (by omega) (by omega)) (HI7.out.still hT hal) ⟨W7.heap.size,C5.new W7 x.1.1 136,hsz7,fun o=>by simp[go_sem],by simp only[e7,e10,e15,e16,e71];rfl⟩
 case body=>
  rintro l pre x a' W7 hl hI ⟨b,hc,hbK,hbf,ea⟩ hNb
  have hnb:W.heap.size≤b:=hbK
  have hx:=x.2
  have HI7:=Lib.hid hI
  have hs7:=hI.size
  have cMx:=hI.far HC.out.2.2 HC.out.2.1.mx HC.out.2.1.n1.1 HC.out.2.1.n1.2.1
  have cCb:=hI.far HC.out.2.2 HC.out.2.1.cb HC.out.2.1.n1.2.2.1 HC.out.2.1.n1.2.2.2.1
  have ht:=hx.t
  have hr4:=rp_lt hx 2
  have cO:=hI.far HC.out.2.2 (HC.out.2.1.row.cell (i:=4*x.1.1.1+rp x.1.1 2) (by omega)) HC.out.2.1.n1.2.2.2.2.1 HC.out.2.1.n1.2.2.2.2.2
  have wR:=hI.wh
  have wRf:=hI.hf
  obtain⟨nn,hmap⟩:=hI.map
  have HMAP:=Lib.hid hmap
  have hbne:b≠R∧b≠H∧b≠Mb:=by have:=hT.lR;have:=hT.lH;have:=hT.lM;omega
  obtain⟨wb,hwb⟩:∃wb,wb=(pre.map (·.1)).all (·.2):=⟨_,rfl⟩
  rw[←hwb] at wR
  have HWB:=Lib.hid hwb;clear hwb
  clear hI hmap
  have hed:=fun w=>gedge_walk x.1.1.2.1 x.1.1.2.2.1 hx.l.1 hx.l.2.1 hx.d.1 w
  have hee:eno (min x.1.1.2.1 x.1.1.2.2.1,max x.1.1.2.1 x.1.1.2.2.1)=edN x.1.1.2.1 x.1.1.2.2.1:=eno_edN _ hx.l.1 _ hx.l.2.1 hx.d.1
  rw[hee] at hed
  have hel:=edN_lt hx
  have HEQ:edq x.1.1=(x.1.1.1,edN x.1.1.2.1 x.1.1.2.2.1):=rfl
  clear hee
  obtain⟨⟨⟨t,i,j,f,q⟩,okb⟩,hxx⟩:=x
  simp only at hx hc cO ht hr4 hed hel HEQ
  obtain⟨c0,c1,c2,c3,c4⟩:=hc
  simp only at c0 c1 c2 c3 c4
  have hrp:rp (t,i,j,f,q) 2=f:=rfl
  rw[hrp] at hr4 cO
  obtain⟨L,hL⟩:∃L,L=ltrI G (4*t+f):=⟨_,rfl⟩
  rw[←hL] at cO
  have HL:=Lib.hid hL
  obtain⟨e,he⟩:∃e,e=edN i j:=⟨_,rfl⟩
  rw[←he] at hed hel HEQ
  have HED:=Hd2 hed HEQ
  have HX:=Hd2 hx hbf
  clear hL he hed HEQ hx hbf hrp c4
  subst hA
  unfold zb6 at ea
  simp only[e7,e10,e15,e16,e71,List.setIfInBounds_toArray,List.set_cons_succ,List.set_cons_zero] at ea
  subst ea
  clear e7 e10 e15 e16 e71
  gi_wp2_with fail
  have hHeld:=And.intro (show W7.drew.cell? ⟨Mx,0,none⟩=_ from cMx) (And.intro (show W7.drew.cell? ⟨b,0,none⟩=_ from c0) (And.intro (show W7.drew.cell? ⟨b,1,none⟩=_ from c1) (show W7.drew.cell? ⟨b,2,none⟩=_ from c2)))
  refine wpIn_region_until (fun w'=>w'.cell? ⟨Mx,0,none⟩=some (.map (some Mb))∧w'.cell? ⟨b,0,none⟩=some (.int .i64 (t:Int))∧w'.cell? ⟨b,1,none⟩=some (.int .i64 (i:Int))∧w'.cell? ⟨b,2,none⟩=some (.int .i64 (j:Int))) 9 (by kernel_rfl) (by kernel_rfl) ?_
  change wpAnyU _ _ _ _ _ _ 10 #[false,false,false,false,false,false,false,false,false,false] _ (World.drew _)
  refine wpAnyU.take (i:=0) (v:=?v0) rfl (by kernel_rfl) (fun _ _ _ h=>(by cases h.1)) (Or.inl ⟨by rfl,?yy0⟩) hHeld ?rr0
  case yy0=>
   intro w8 hSw
   obtain⟨s1,s2,s3,s4⟩:=hSw
   go_simp
   try with_reducible rfl
  simp only[Act.put,nrm]
  refine wpAnyU.take (i:=1) (v:=?v1) rfl (by kernel_rfl) (fun _ _ _ h=>(by cases h.1)) (Or.inl ⟨by rfl,?yy1⟩) hHeld ?rr1
  case yy1=>
   intro w8 hSw
   obtain⟨s1,s2,s3,s4⟩:=hSw
   go_simp
   try with_reducible rfl
  simp only[Act.put,nrm]
  refine wpAnyU.take (i:=2) (v:=?v2) rfl (by kernel_rfl) (fun _ _ _ h=>(by cases h.1)) (Or.inl ⟨by rfl,?yy2⟩) hHeld ?rr2
  case yy2=>
   intro w8 hSw
   obtain⟨s1,s2,s3,s4⟩:=hSw
   go_simp
   try with_reducible rfl
  simp only[Act.put,nrm]
  refine wpAnyU.take (i:=3) (v:=?v3) rfl (by kernel_rfl) (fun _ _ _ h=>(by cases h.1)) (Or.inl ⟨by rfl,?yy3⟩) hHeld ?rr3
  case yy3=>
   intro w8 hSw
   obtain⟨s1,s2,s3,s4⟩:=hSw
   go_simp
   try with_reducible rfl
  simp only[Act.put,nrm]
  refine wpAnyU.take (i:=4) (v:=?v4) rfl (by kernel_rfl) (fun _ _ _ h=>(by cases h.1)) (Or.inl ⟨by rfl,?yy4⟩) hHeld ?rr4
  case yy4=>
   intro w8 hSw
   obtain⟨s1,s2,s3,s4⟩:=hSw
   go_simp
   try with_reducible rfl
  simp only[Act.put,nrm]
  refine wpAnyU.take (i:=5) (v:=?v5) rfl (by kernel_rfl) (fun _ _ _ h=>(by cases h.1)) (Or.inl ⟨by rfl,?yy5⟩) hHeld ?rr5
  case yy5=>
   intro w8 hSw
   obtain⟨s1,s2,s3,s4⟩:=hSw
   go_simp
   try with_reducible rfl
  simp only[Act.put,nrm]
  refine wpAnyU.take (i:=6) (v:=?v6) rfl (by kernel_rfl) (fun _ _ _ h=>(by cases h.1)) (Or.inl ⟨by rfl,?yy6⟩) hHeld ?rr6
  case yy6=>
   intro w8 hSw
   obtain⟨s1,s2,s3,s4⟩:=hSw
   go_simp
   try with_reducible rfl
  simp only[Act.put,nrm]
  refine wpAnyU.one (i:=7) (by kernel_rfl) rfl rfl (fun K hK=>?_)
  simp only[List.getElem_toArray,List.getElem_cons_succ,List.getElem_cons_zero]
  go_simp
  refine (HED.out.1 _).mono ?_
  rintro e8 W8 ⟨rfl,hb8⟩
  have hg8:=za6 hb8 (Nat.le_refl _) none
  have hg78:W7.grownBy W8 none:=za2 (zb0 W7 none) hg8
  have hHeld:=And.intro (hg78.cell cMx (by simp)) (And.intro (hg78.cell c0 (by simp)) (And.intro (hg78.cell c1 (by simp)) (hg78.cell c2 (by simp))))
  refine hK _ _ (fun _=>hHeld) ?_
  clear hK K
  simp only[List.setIfInBounds_toArray,List.set_cons_succ,List.set_cons_zero]
  refine wpAnyU.take (i:=8) (v:=?v8) rfl (by kernel_rfl) (fun _ _ _ h=>(by cases h.1)) (Or.inl ⟨by rfl,?yy8⟩) hHeld ?rr8
  case yy8=>
   intro w8 hSw
   obtain⟨s1,s2,s3,s4⟩:=hSw
   go_simp
   try with_reducible rfl
  simp only[Act.put,nrm]
  refine wpAnyU.one (i:=9) (by kernel_rfl) rfl rfl (fun K hK=>?_)
  refine wp_put 134 (.tmp 74) (.tmp 82) (.const (.bool true)) rfl codes82 und134 (HMAP.out.kept hg78 (by simp)) (t,e) ⟨by show t<_;have:=HC.out.1;have:=zg5 this;omega,by show e<_;omega⟩ true rfl rfl rfl ?_
  intro W9 h1 h2 h3
  refine hK _ _ (fun q=>absurd q (by simp)) ?_
  clear hK K
  refine wpAnyU.fin (by kernel_rfl) ⟨rfl,?_⟩ _
  have hbm:∀i,i≠Mb→(some i:Option Nat)≠some Mb:=fun i h=>by simpa using h
  have wR9:=h2.cell (hg78.cell wR (by simp)) (hbm _ hT.HM)
  have wRf9:W9.frozen? ⟨H,0,none⟩=false:=(h2.frozen_far ⟨H,0,none⟩ (za0 (hg78.cell wR (by simp))) (hbm _ hT.HM)).trans ((hg78.frozen_far ⟨H,0,none⟩ (za0 wR) (by simp)).trans wRf)
  have b0:=h2.cell hHeld.2.1 (hbm _ hbne.2.2)
  have b3:=h2.cell (hg78.cell c3 (by simp)) (hbm _ hbne.2.2)
  have nM:∀{i o x},W7.cell? ⟨i,o,none⟩=some x→i≠Mb:=fun hc q=>by
   subst q
   obtain⟨c,t,f,e⟩:=zc7 hc
   obtain⟨es,cl,hb,_⟩:=HMAP.out.ex
   rw[hb] at e;cases e
  have cCb9:=h2.cell (hg78.cell cCb (by simp)) (hbm _ (nM cCb))
  have cO9:=h2.cell (hg78.cell cO (by simp)) (hbm _ (nM cO))
  have hO8:=HI7.out.still hT hg78
  have hO9:OI W R H Mb (ltrs G (pre.map (·.1))) ((pre.map (·.1)).all (·.2)) (mtB mt (pre.map (·.1)++[((t,i,j,f,q),okb)])) W9:=hO8.meet hT h2 ⟨_,h1.congr (fun p=>by rw[←mD_put,HED.out.2])⟩
  have hs7b:R<W7.heap.size:=Nat.lt_of_lt_of_le hRW HI7.out.size
  have sp9:zg8 R H N W7 W9:=(spare2_grown hg78 hs7b (by omega)).trans (hO8.spare_meet hT h2)
  have k9:KeepsFrom W.heap.size W7 W9:=(KeepsFrom.of_grownBy hg78 (fun r e=>by cases e)).trans (KeepsFrom.of_grownBy h2 (fun r e=>by cases e;exact hT.lM))
  have H9:=Hd3 hO9 sp9 k9
  have hpl:pre.length≤m:=hNb
  have hbH:b≠H:=hbne.2.1
  have hCH:Cb≠H:=HC.out.2.1.n1.2.2.2.1
  have hoH:o≠H:=HC.out.2.1.n1.2.2.2.2.2
  clear hHeld hb8 hg8 hg78 h1 h2 h3 c0 c1 c2 c3 cMx cCb cO wR wRf nM hbm hs7 hO8 hO9 sp9 k9 hs7b
  cases wb
  all_goals gi_wp2_with fail
  all_goals refine wpIn_named fun W10 hW10=>?_
  all_goals obtain⟨fb,hfb,hO10⟩:∃fb,fb=((pre.map (·.1)).all (·.2) && okb)∧OI W R H Mb (ltrs G (pre.map (·.1))) fb (mtB mt (pre.map (·.1)++[((t,i,j,f,q),okb)])) W10:=⟨_,by rw[←HWB.out],by rw[hW10];exact H9.out.1.flag hT _⟩
  all_goals have sp10:zg8 R H N W7 W10:=by rw[hW10];exact H9.out.2.1.trans (H9.out.1.spare_flag hT _)
  all_goals have k10:KeepsFrom W.heap.size W7 W10:=by rw[hW10];exact zd1 H9.out.2.2 _ _
  all_goals have hgo:W9.grownBy W10 (some H):=by rw[hW10];exact za1 W9 H 0 _
  all_goals have p0:=hgo.cell b0 (by simpa using hbH)
  all_goals have p3:=hgo.cell b3 (by simpa using hbH)
  all_goals have pC:=hgo.cell cCb9 (by simpa using hCH)
  all_goals have pO:=hgo.cell cO9 (by simpa using hoH)
  all_goals have H10:=Hd4 hO10 sp10 k10 hfb
  all_goals clear hO10 sp10 k10 hfb hgo hW10 b0 b3 cCb9 cO9 wR9 wRf9
  all_goals replace p0:W10.drew.cell? ⟨b,0,none⟩=some (.int .i64 (t:Int)):=p0
  all_goals replace p3:W10.drew.cell? ⟨b,3,none⟩=some (.int .i64 (f:Int)):=p3
  all_goals replace pC:W10.drew.cell? ⟨Cb,0,none⟩=some (.slice (some ⟨o,0,none⟩) G.n G.n):=pC
  all_goals replace pO:W10.drew.cell? ⟨o,t*4+f,none⟩=some (.int .i64 L):=by rw[Nat.mul_comm t 4];exact pO
  all_goals have t0:0≤(t:Int):=by omega
  all_goals have tn:(t:Int)<(G.n:Int):=by omega
  all_goals have f0:0≤(f:Int):=by omega
  all_goals have f4:(f:Int)<4:=by omega
  all_goals refine wpIn_region_tail 8 (by kernel_rfl) (by kernel_rfl) (by kernel_rfl) ?_
  all_goals simp only[List.take_succ_cons,List.take_zero,List.drop_succ_cons,List.drop_zero]
  all_goals repeat (refine wpStill_step (fun K hK=>?_);go_simp;refine hK _ ?_;clear hK K)
  all_goals refine wpStill_nil ?_
  all_goals refine wpList_plain rfl (fun K' hK'=>?_)
  all_goals go_simp
  all_goals refine hK' _ _ ?_
  all_goals clear hK' K'
  all_goals refine⟨rfl,?_⟩
  all_goals have e1:(pre++[(⟨((t,i,j,f,q),okb),hxx⟩:RKg G)]).map (·.1)=pre.map (·.1)++[((t,i,j,f,q),okb)]:=by simp
  all_goals have e2:(pre.map (·.1)++[((t,i,j,f,q),okb)]).all (·.2)=((pre.map (·.1)).all (·.2) && okb):=by simp
  all_goals have e3:=ltrs_snoc G (pre.map (·.1)) ((t,i,j,f,q),okb)
  all_goals have e4:ltrI G (4*((t,i,j,f,q):RS).1+rp (t,i,j,f,q) 2)=L:=HL.out.symm
  all_goals rw[e4] at e3
  all_goals have hO11:=H10.out.1.still hT (zb0 W10 none)
  all_goals have hs11:=hO11.size
  all_goals have sp11:zg8 R H N W7 W10.drew:=H10.out.2.1.trans (spare2_grown (zb0 W10 none) (by have:=H10.out.1.size;omega) (by have:=H10.out.1.size;omega))
  all_goals have k11:KeepsFrom W.heap.size W7 W10.drew:=H10.out.2.2.1.trans (KeepsFrom.of_grownBy (zb0 W10 none) (fun r e=>by cases e))
  all_goals rw[←H10.out.2.2.2] at e2
  all_goals obtain⟨v,hv,ho⟩:=hO11.word
  all_goals have hvf:=hO11.wf
  all_goals have hll:=ltrs_len G (pre.map (·.1))
  all_goals rw[List.length_map] at hll
  all_goals have HE:=Hd3 e1 e2 e3
  all_goals have H11:=Hd3 hO11 sp11 k11
  all_goals clear hO11 sp11 k11 e1 e2 e3 e4 p0 p3 pC pO
  all_goals generalize W10.drew=W11 at *
  all_goals rcases Classical.em (L=0) with hL0 | hL0
  iterate 2 (
   ·subst hL0
    clear hv ho hvf
    gi_wp2
    obtain⟨e1,e2,e3⟩:=HE.out
    obtain⟨hO11,sp11,k11⟩:=H11.out
    have e6:=H10.out.2.2.2
    rw[List.all_map] at e6
    refine⟨k11,sp11,?_⟩
    rw[e3,if_neg (by simp),List.append_nil,←e6]
    exact hO11
   ·obtain⟨ga,cp,rfl⟩:=za8 ho
    have hLq:(L==0)=false:=by simpa using hL0
    obtain⟨len,hlen⟩:∃n,n=(ltrs G (pre.map (·.1))).length:=⟨_,rfl⟩
    rw[←hlen] at hv ho hll
    obtain⟨i0,hi0,hz0,hz1,hz2⟩:=info_parts info3
    have hal:=World.grownBy_alloc W11 (.cells #[.int .i64 L] 3) none
    have hva:=hal.cell hv (by simp)
    have hRl:R<W11.heap.size:=by omega
    have hfa:=(hal.frozen_far ⟨R,0,none⟩ hRl (by simp)).trans hvf
    have hne1:some R≠(Value.slice ga len cp).ownBlock:=fun e=>by
     have:=(ho.lt _ e.symm).1
     omega
    have hown:=ho.alloc (.cells #[.int .i64 L] 3)
    have HY:=Hd5 hal hva hfa hne1 hown
    have HW7:=Hd2 hv hlen
    clear hown hal hva hfa hne1 ho hlen
    gi_wp2_with (refine zf3 _ rfl (.tmp 97) (.tmp 99) 35 rfl W.heap.size 3 i0 _ 1 8 und35 hi0 hz0 hz1 hz2 rfl (by omega) (.slice ga len cp) len _ rfl HY.out.2.2.2.2 ⟨W11.heap.size,0,none⟩ 1 1 [.int .i64 L] rfl rfl (World.news_of_block (cs:=#[.int .i64 L]) (MapKept.heap_alloc W11 _).1) (by simp[Value.oneCell']) (by omega) (by unfold maxLen;omega) (by omega) (by simp;omega) (W11.heap.size+1) (by simp) ?_;intro g cap w1 h1 h2 h3 h4;have k1:=h2.cell HY.out.2.1 HY.out.2.2.2.1;have k2:=(h2.frozen_far ⟨R,0,none⟩ (za0 HY.out.2.1) HY.out.2.2.2.1).trans HY.out.2.2.1;have HA:=Hd4 h1 h2 h3 h4;clear h1 h2 h3 h4)
    obtain⟨hv2,rfl⟩:=HW7.out
    obtain⟨e1,e2,e3⟩:=HE.out
    have e6:=H10.out.2.2.2
    rw[List.all_map] at e6
    obtain⟨k12,sp12,hO12⟩:=OI.push hT H11.out.1 hv2 HA.out.1 HA.out.2.1 HA.out.2.2.1 HA.out.2.2.2
    refine⟨H11.out.2.2.trans k12,H11.out.2.1.trans sp12,?_⟩
    rw[e3,if_pos hL0,←e6]
    exact hO12 )
end
end Go.Proofs.Ytlckpgahijlmoaa
