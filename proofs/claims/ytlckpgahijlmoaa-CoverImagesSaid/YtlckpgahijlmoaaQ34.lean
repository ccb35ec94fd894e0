/- glue.parts and Parts: numbers, one for each tetrahedron. -/
import Derived.Test.YtlckpgahijlmoaaQ15
import Derived.Test.YtlckpgahijlmoaaQ23
import Derived.Laws.OwnMore
set_option maxRecDepth 100000
set_option maxHeartbeats 8000000
namespace Go.Proofs.Ytlckpgahijlmoaa
section
open Go.RowKit Go.Shelf
structure PQ (w W:World)(N n:Nat)(v qv:Value)(qs:List Nat)(h:Nat→Int):Prop where
 own:W.ownsRow (N+2) 3 1 qv qs.length (qs.map fun (q:Nat)=>Value.int .i64 (q:Int))
 row:zb7 W (N+1) n h
 sv:∀j,j<n→-1≤h j
 qlt:∀q∈qs,q<n
 cnt:qs.length≤nzc (fun j=>h j+1) n
 c0:W.cell? ⟨N,0,none⟩=some v
 bel:Below N w W
theorem PQ.kept {w W W':World}{N n:Nat}{v qv:Value}{qs:List Nat}{h:Nat→Int}(hq:PQ w W N n v qv qs h)(hg:W.grownBy W' none):PQ w W' N n v qv qs h:=
 ⟨hq.own.kept hg (by cases qv.ownBlock<;>simp),za3 hq.row hg (by simp),hq.sv,hq.qlt,hq.cnt,hg.cell hq.c0 (by simp),hq.bel.grown hg (by have:=za0 hq.c0;simp only at this;omega) (fun k e=>by cases e)⟩
theorem PQ.push {w W W2 w1:World}{N n g cap:Nat}{v qv:Value}{qs:List Nat}{h:Nat→Int}(hq:PQ w W N n v qv qs h){j:Nat}(hj:j<n)(h0:h j<0){x:Int}(hx:0≤x)(hg:(W.setCell ⟨N+1,j,none⟩ (.int .i64 x)).grownBy W2 none)
  (a1:w1.ownsRow (N+2) 3 1 (.slice (some ⟨g,0,none⟩) (qs.length+1) cap) (qs.length+1) ((qs.map fun (q:Nat)=>Value.int .i64 (q:Int))++[.int .i64 (j:Int)])) (a2:W2.grownBy w1 qv.ownBlock) :
  PQ w w1 N n v (.slice (some ⟨g,0,none⟩) (qs.length+1) cap) (qs++[j]) (fun i=>if i=j then x else h i):=by
 have hlo:∀b,qv.ownBlock=some b→N+2≤b:=fun b e=>(hq.own.lt b e).1
 have n1:some (N+1)≠qv.ownBlock:=fun e=>by have:=hlo _ e.symm;omega
 have n0:some N≠qv.ownBlock:=fun e=>by have:=hlo _ e.symm;omega
 have hs:=za1 W (N+1) j (.int .i64 x)
 have h1:(W.setCell ⟨N+1,j,none⟩ (.int .i64 x)).rowIs (N+1) 3 n (fun i=>.int .i64 (if i=j then x else h i)):=(hq.row.set j _).congr (fun i _=>by by_cases e:i=j<;>simp[e])
 have hm1:h j=-1:=by have:=hq.sv j hj;omega
 refine⟨by simpa using a1,za3 (za3 h1 hg (by simp)) a2 n1,fun i hi=>?_,fun q hm=>?_,?_,a2.cell (hg.cell (hs.cell hq.c0 (by simp)) (by simp)) n0,?_⟩
 ·by_cases e:i=j
  ·simp only[e,if_true];omega
  ·simp only[e,if_false];exact hq.sv i hi
 ·rcases List.mem_append.1 hm with q1 | q1
  ·exact hq.qlt q q1
  ·simp at q1;omega
 ·have e:(fun i=>(if i=j then x else h i)+1)=fun i=>if i=j then x+1 else h i+1:=by
   funext i;split<;>rfl
  rw[e,nzc_set (s:=fun i=>h i+1) hj (by omega) (by omega)]
  have:=hq.cnt
  simp;omega
 ·have hN:=za0 hq.c0
  simp only at hN
  have hz:=hg.size
  simp at hz
  exact ((hq.bel.setCell (by show N≤N+1;omega) _).grown hg (by simp;omega) (fun k e=>by cases e)).grown a2 (by omega) (fun k e=>by have:=hlo k e;omega)
end
end Go.Proofs.Ytlckpgahijlmoaa
