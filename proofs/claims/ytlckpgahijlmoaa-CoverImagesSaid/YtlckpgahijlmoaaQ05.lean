/- glue.faces: the iterator over the faces of a gluing, by its contract: every gluing. -/
import Derived.Test.YtlckpgahijlmoaaQ02
import Derived.RangeFuncNested
import Derived.RangeFuncBound
import Derived.RangeFuncCalls
import Derived.RangeFuncLeaves
import Derived.RangeFuncBox
import Derived.Shelf.Abstract
import Derived.OwnWalkIn
import Derived.TacticsInMore
import Derived.LoopNIn
import Derived.LoopIn
set_option maxRecDepth 100000
set_option maxHeartbeats 8000000
namespace Go.Proofs.Ytlckpgahijlmoaa
section
open Go.RowKit Go.Shelf
attribute [local go_sem] Oper.semAt_some
structure Gl where
 n:Nat
 tet:Nat→Int
 pm:Nat→Nat→Int
def GlAt (B:Nat)(W:World)(v:Value)(G:Gl):Prop:=
 ∃a b off cap,v=.slice a G.n cap∧(0<G.n→a=some ⟨b,off,none⟩∧b<B) ∧
  ∀k,k<4*G.n→W.cell? ⟨b,off+5*k,none⟩=some (.int .i64 (G.tet k))∧∀i,i<4→W.cell? ⟨b,off+5*k+1+i,none⟩=some (.int .i64 (G.pm k i))
theorem GlAt.below {B:Nat}{A W:World}{v:Value}{G:Gl}(h:GlAt B A v G)(hb:Below B A W):GlAt B W v G:=by
 obtain⟨a,b,off,cap,e,hB,hc⟩:=h
 exact⟨a,b,off,cap,e,hB,fun k hk=>⟨(hb.cell (p:=⟨b,_,none⟩) (hB (by omega)).2).trans (hc k hk).1,fun i hi=>(hb.cell (p:=⟨b,_,none⟩) (hB (by omega)).2).trans ((hc k hk).2 i hi)⟩⟩
theorem GlAt.mono {B B':Nat}{W:World}{v:Value}{G:Gl}(h:GlAt B W v G)(hb:B≤B'):GlAt B' W v G:=by
 obtain⟨a,b,off,cap,e,hB,hc⟩:=h
 exact⟨a,b,off,cap,e,fun h=>⟨(hB h).1,Nat.lt_of_lt_of_le (hB h).2 hb⟩,hc⟩
def faceA (G:Gl)(k:Nat):Array Value:=#[.int .i64 (G.tet k),.int .i64 (G.pm k 0),.int .i64 (G.pm k 1),.int .i64 (G.pm k 2),.int .i64 (G.pm k 3)]
def rowA (G:Gl)(t:Nat):Array Value:=#[.int .i64 (G.tet (4*t)),.int .i64 (G.pm (4*t) 0),.int .i64 (G.pm (4*t) 1),.int .i64 (G.pm (4*t) 2),.int .i64 (G.pm (4*t) 3),.int .i64 (G.tet (4*t+1)),.int .i64 (G.pm (4*t+1) 0),.int .i64 (G.pm (4*t+1) 1),.int .i64 (G.pm (4*t+1) 2),.int .i64 (G.pm (4*t+1) 3),.int .i64 (G.tet (4*t+2)),.int .i64 (G.pm (4*t+2) 0),.int .i64 (G.pm (4*t+2) 1),.int .i64 (G.pm (4*t+2) 2),.int .i64 (G.pm (4*t+2) 3),.int .i64 (G.tet (4*t+3)),.int .i64 (G.pm (4*t+3) 0),.int .i64 (G.pm (4*t+3) 1),.int .i64 (G.pm (4*t+3) 2),.int .i64 (G.pm (4*t+3) 3)]
theorem ze2 (G:Gl)(t f:Nat)(hf:f<4)(w:World):(Instr.index 88 (.agg (rowA G t)) (.int .i64 (f:Int))).run Try.prog w=.ok (.agg (faceA G (4*t+f))) w:=by
 rw[run_index_row (n:=4) (s:=5) (t:=88) (e:=87) Try.underlying88 Try.underlying87 rfl (by kernel_rfl) (rowA G t) .i64 f hf w]
 have h:(rowA G t).extract (f*5) (f*5+5)=faceA G (4*t+f):=by
  match f,hf with
  | 0,_=>simp[rowA,faceA]
  | 1,_=>simp[rowA,faceA]
  | 2,_=>simp[rowA,faceA]
  | 3,_=>simp[rowA,faceA]
 rw[h]
def zb9 (W:World)(b o:Nat)(G:Gl)(t:Nat):Prop:=∀j,j<20→W.cell? ⟨b,o+j,none⟩=(rowA G t)[j]?
theorem ze5 {G:Gl}{W:World}{b off:Nat}(hc:∀k,k<4*G.n→W.cell? ⟨b,off+5*k,none⟩=some (.int .i64 (G.tet k))∧∀i,i<4→W.cell? ⟨b,off+5*k+1+i,none⟩=some (.int .i64 (G.pm k i)))
  (t:Nat) (ht:t<G.n):zb9 W b (off+t*20) G t:=by
 intro j hj
 have h4:j / 5<4:=by omega
 have hk:4*t+j / 5<4*G.n:=by omega
 have h:=hc (4*t+j / 5) hk
 by_cases hz:j % 5=0
 ·have e:off+t*20+j=off+5*(4*t+j / 5):=by omega
  rw[e,h.1]
  have:j=0∨j=5∨j=10∨j=15:=by omega
  rcases this with rfl | rfl | rfl | rfl<;>simp[rowA]
 ·have hi:=h.2 (j % 5-1) (by omega)
  have e:off+t*20+j=off+5*(4*t+j / 5)+1+(j % 5-1):=by omega
  rw[e,hi]
  have:j=1∨j=2∨j=3∨j=4∨j=6∨j=7∨j=8∨j=9∨j=11∨j=12∨j=13∨j=14∨j=16∨j=17∨j=18∨j=19:=by omega
  rcases this with rfl | rfl | rfl | rfl | rfl | rfl | rfl | rfl | rfl | rfl | rfl | rfl | rfl | rfl | rfl | rfl<;>simp[rowA]
theorem zb9.range {W:World}{b o:Nat}{G:Gl}{t:Nat}(h:zb9 W b o G t):W.rangeAt b o (rowA G t).toList:=fun j v hv=>by
 have hj:j<20:=(List.getElem?_eq_some_iff.1 hv).1
 rw[h j hj];simpa using hv
def encF (G:Gl)(k:Nat):Array Value:=#[.agg #[.int .i64 ((k / 4:Nat):Int),.int .i64 ((k % 4:Nat):Int)],.agg (faceA G k)]
theorem encF_at (G:Gl)(t f:Nat)(hf:f<4):encF G (4*t+f)=#[.agg #[.int .i64 (t:Int),.int .i64 (f:Int)],.agg #[.int .i64 (G.tet (4*t+f)),.int .i64 (G.pm (4*t+f) 0),.int .i64 (G.pm (4*t+f) 1),.int .i64 (G.pm (4*t+f) 2),.int .i64 (G.pm (4*t+f) 3)]]:=by
 have h1:(4*t+f) / 4=t:=by omega
 have h2:(4*t+f) % 4=f:=by omega
 simp only[encF,faceA,h1,h2]
theorem faces1_in (F:Fence)(n:Nat)(h124:F.fn 124)(hro:F.round=none)(hn:1≤n)(l Bs n₀:Nat)(G:Gl)(ga:Option Addr)(b off cap:Nat)(hreach:G.n≤1000000)(hga:0<G.n→ga=some ⟨b,off,none⟩∧b<n₀)(J Jx:List Nat→World→Prop)
  (hY:∀pre x W,x<4*G.n→J pre W→pre.length<4*G.n→YieldAt F (n-1) Try.prog l (encF G x) W fun e W'=>
   (e=.returned (.bool true)∧J (pre++[x]) W'∧Below n₀ W W')∨(e=.returned (.bool false)∧Jx (pre++[x]) W'))
  (hJal:∀pre W o,J pre W→J pre (W.alloc o))
  (W:World) (hBs0:Bs<n₀) (hBs:W.cell? ⟨Bs,0,none⟩=some (.slice ga G.n cap))
  (hc:∀k,k<4*G.n→W.cell? ⟨b,off+5*k,none⟩=some (.int .i64 (G.tet k))∧∀i,i<4→W.cell? ⟨b,off+5*k+1+i,none⟩=some (.int .i64 (G.pm k i))) (h0:J [] W) (hn0:n₀≤W.heap.size) :
  CallsIn F n Try.prog 124 #[.func (.yield l) #[] #[],.pointer (some ⟨Bs,0,none⟩)] W fun e W'=>(∃v,e=.returned v) ∧
   ((∃ys,ys=List.range (4*G.n)∧J ys W')∨(∃pre,(∃k,k≤4*G.n∧pre=List.range k)∧Jx pre W')):=by
 refine callsIn_of_wp Try.func124 rfl h124 ?_ hro
 simp only[Try.ntmps124,List.size_toArray,List.length_cons,List.length_nil,Nat.reduceAdd,Nat.reduceSub,Array.replicate_succ,Array.replicate_zero,List.push_toArray,List.append_toArray,List.nil_append,List.cons_append]
 gi_wp2
 gi_loopw [9] (fun i wr=>∃t:Nat,t≤G.n∧i=.int .i64 t∧J (List.range (4*t)) wr∧Below n₀ W wr)
  (fun i _=>G.n-(intOf i).toNat)
 case atStart=>exact⟨0,Nat.zero_le _,rfl,h0,Below.refl _ _⟩
 case round=>
  obtain⟨t,ht,rfl,hJs,hnx⟩:=hrel
  have hBs1:wr.cell? ⟨Bs,0,none⟩=some (.slice ga G.n cap):=(hnx.cell (p:=⟨Bs,0,none⟩) hBs0).trans hBs
  by_cases hlt:t<G.n
  ·obtain⟨rfl,hb⟩:=hga (by omega)
   have hrow:=ze5 (fun k hk=>⟨(hnx.cell (p:=⟨b,_,none⟩) hb).trans (hc k hk).1,fun i hi=>(hnx.cell (p:=⟨b,_,none⟩) hb).trans ((hc k hk).2 i hi)⟩) t hlt
   have HJ:=Lib.hid hJs;clear hJs
   have hrg:=hrow.range
   clear hrow
   gi_wp2_with (refine wpListIn_load_row rfl 88 (.tmp 15) rfl b (off+t*20) rfl (rowA G t) _ hrg Try.underlying88 rfl (by kernel_rfl) ?_)
   clear hrg
   gi_loopw [17] (fun i wi=>∃f:Nat,f≤4∧i=.int .i64 f∧J (List.range (4*t+f)) wi∧Below n₀ W wi)
    (fun i _=>4-(intOf i).toNat)
   case atStart=>exact⟨0,Nat.zero_le _,rfl,HJ.out,hnx⟩
   case round=>
    obtain⟨f,hf,rfl,hJs,hnx⟩:=hrel
    by_cases hlf:f<4
    ·have hix:=fun w=>ze2 G t f hlf w
     unfold faceA at hix
     obtain⟨fn,tmps,assign,body,hy,hR⟩:=hY _ (4*t+f) (wr.alloc (.cells #[.int .i64 (G.tet (4*t+f)),.int .i64 (G.pm (4*t+f) 0),.int .i64 (G.pm (4*t+f) 1),.int .i64 (G.pm (4*t+f) 2),.int .i64 (G.pm (4*t+f) 3)] 87)) (by omega) (hJal _ _ _ hJs) (by rw[List.length_range];omega)
     rw[encF_at G t f hlf] at hy
     clear hJs HJ
     gi_wp2
     refine hR.mono ?_
     rintro e W3 (⟨rfl,hJ3,hk3⟩ | ⟨rfl,hJx3⟩)
     ·have HJ3:=Lib.hid hJ3;clear hJ3
      gi_wp2
      go_roundw
      case rel=>
       refine⟨f+1,by omega,by go_num,?_,?_⟩
       ·have:=HJ3.out;rw[←List.range_succ] at this;exact this
       ·exact hnx.trans ((Below.alloc (Below.refl n₀ wr) (Nat.le_trans hn0 hnx.size) _).trans hk3)
      case measure=>simp[intOf];omega
     ·gi_wp2
      refine bodyPost_ret (results_none rfl _ _ _) rfl ?_
      exact⟨⟨_,rfl⟩,.inr ⟨_,⟨4*t+f+1,by omega,List.range_succ.symm⟩,hJx3⟩⟩
    ·have hgf:4≤f:=by omega
     have HJ:=Lib.hid hJs;clear hJs
     gi_wp2
     go_roundw
     case rel=>
      obtain rfl:f=4:=by omega
      exact⟨t+1,by omega,by go_num,HJ.out,hnx⟩
     case measure=>simp[intOf];omega
  ·have hge:G.n≤t:=by omega
   have HJ:=Lib.hid hJs;clear hJs
   gi_wp2
   go_end0
   obtain rfl:t=G.n:=by omega
   exact⟨⟨_,rfl⟩,.inl ⟨_,rfl,HJ.out⟩⟩
theorem faces_stops (n:Nat)(hn:1≤n)(Bs n₀:Nat)(G:Gl)(v:Value)(w:World)(hreach:G.n≤1000000)(hBs0:Bs<n₀)(hn0:n₀≤w.heap.size)(hBs:w.cell? ⟨Bs,0,none⟩=some v)(hG:GlAt n₀ w v G) :
  SeqStopsK Fence.wide n Try.prog 124 #[.pointer (some ⟨Bs,0,none⟩)] (fun x:Fin (4*G.n)=>encF G x.val) (Below n₀) (fun ys=>ys.map (·.val)=List.range (4*G.n)) (fun pre=>∃k,k≤4*G.n∧pre.map (·.val)=List.range k) (4*G.n) w:=by
 intro l J Jx W hW hJ hJx hY h0
 obtain⟨ga,b,off,cap,rfl,hga,hc⟩:=hG
 refine (faces1_in Fence.wide n trivial rfl hn l Bs n₀ G ga b off cap hreach hga (fun p W=>∃p':List (Fin (4*G.n)),p'.map (·.val)=p∧J p' W) (fun p W=>∃p':List (Fin (4*G.n)),p'.map (·.val)=p∧Jx p' W) (fun pre x W2 hx hj hlen=>?_)
  (fun pre W2 o hs=>?_) W hBs0 ((hW.cell (p:=⟨Bs,0,none⟩) (by show Bs<_;omega)).trans hBs) (fun k hk=>?_) ⟨[],rfl,h0⟩ (Nat.le_trans hn0 hW.size)).mono ?_
 ·obtain⟨p',rfl,hj⟩:=hj
  obtain⟨fn,tmps,assign,body,hy,hR⟩:=hY p' ⟨x,hx⟩ W2 hj (by simpa using hlen)
  refine⟨fn,tmps,assign,body,hy,hR.mono ?_⟩
  rintro e W' (⟨he,hj',hk⟩ | ⟨he,hj'⟩)
  ·exact .inl ⟨he,⟨_,by simp,hj'⟩,hk⟩
  ·exact .inr ⟨he,⟨_,by simp,hj'⟩⟩
 ·obtain⟨p',rfl,hj⟩:=hs
  exact⟨p',rfl,hJ p' W2 _ none hj (World.grownBy_alloc W2 o none) (fun r e=>by cases e)⟩
 ·have hb:=(hga (by omega)).2
  exact⟨(hW.cell (p:=⟨b,_,none⟩) (by show b<_;omega)).trans (hc k hk).1,fun i hi=>(hW.cell (p:=⟨b,_,none⟩) (by show b<_;omega)).trans ((hc k hk).2 i hi)⟩
 ·rintro e W' ⟨he,⟨ys,rfl,p',hp,hj⟩ | ⟨pre,⟨k,hk,rfl⟩,p',hp,hj⟩⟩
  ·exact⟨he,.inl ⟨p',hp,hj⟩⟩
  ·exact⟨he,.inr ⟨p',⟨k,hk,hp⟩,hj⟩⟩
theorem faces_walk (sv:Value)(a:Option Addr)(n c:Nat)(hv:sv=.slice a n c)(w:World) :
  Calls Try.prog 96 #[.agg #[sv]] w fun e w'=>e=.returned (.func (.func 124) #[] #[.pointer (some ⟨w.heap.size,0,none⟩)])∧w'=w.alloc (.cells #[sv] 24):=by
 subst hv
 go_enter Try.func96,Try.ntmps96
 go_wp2
 have hmf:∀(fn:Fn) (first cap:Array Value) (w:World),(Instr.makeFunc fn first cap).run Try.prog w=.ok (.func fn first cap) w:=fun _ _ _ _=>rfl
 go_wp2
 go_ret
 exact⟨rfl,rfl⟩
end
end Go.Proofs.Ytlckpgahijlmoaa
