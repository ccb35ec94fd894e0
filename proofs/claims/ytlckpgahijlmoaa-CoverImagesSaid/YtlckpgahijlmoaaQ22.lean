/- skel's iterator around an edge: walk$1. -/
import Derived.Test.YtlckpgahijlmoaaQ07
import Derived.Test.YtlckpgahijlmoaaQ08
import Derived.Test.YtlckpgahijlmoaaQ13
import Derived.Deep.RegionLaw
import Derived.Deep.LoopGhost
import Derived.Test.YtlckpgahijlmoaaQ06
set_option maxRecDepth 100000
set_option maxHeartbeats 8000000
namespace Go.Proofs.Ytlckpgahijlmoaa
section
open Go.RowKit Go.Shelf
def encR (u:RS):Array Value:=#[.agg #[.int .i64 (u.1:Int),.int .i64 (u.2.1:Int),.int .i64 (u.2.2.1:Int),.int .i64 (u.2.2.2.1:Int),.int .i64 (u.2.2.2.2:Int)]]
def zb6 (u:RS):Array Value:=#[.int .i64 (u.1:Int),.int .i64 (u.2.1:Int),.int .i64 (u.2.2.1:Int),.int .i64 (u.2.2.2.1:Int),.int .i64 (u.2.2.2.2:Int)]
def C5 (W:World)(b:Nat)(u:RS):Prop:=
 W.cell? ⟨b,0,none⟩=some (.int .i64 (u.1:Int))∧W.cell? ⟨b,1,none⟩=some (.int .i64 (u.2.1:Int))∧W.cell? ⟨b,2,none⟩=some (.int .i64 (u.2.2.1:Int))∧W.cell? ⟨b,3,none⟩=some (.int .i64 (u.2.2.2.1:Int))∧W.cell? ⟨b,4,none⟩=some (.int .i64 (u.2.2.2.2:Int))
def pth (G:Gl)(l:Nat)(s:RS)(k:Nat):List RS:=(List.range k).filterMap (itr G l s)
theorem pth_succ {G:Gl}{l:Nat}{s u:RS}{k:Nat}(h:itr G l s k=some u):pth G l s (k+1)=pth G l s k++[u]:=by
 simp[pth,List.range_succ,List.filterMap_append,h]
theorem pth_len {G:Gl}{l:Nat}{s:RS}{k:Nat}(h:∀i,i<k→itr G l s i≠none):(pth G l s k).length=k:=by
 induction k with
 | zero=>rfl
 | succ k ih=>
  cases e:itr G l s k with
  | none=>exact absurd e (h k (by omega))
  | some u=>rw[pth_succ e,List.length_append,ih (fun i hi=>h i (by omega))];rfl
def zc3 (R:Nat)(W:World)(i:Nat):Prop:=i≠R∧∀v,W.cell? ⟨R,0,none⟩=some v→v.ownBlock≠some i
def FrR (R:Nat)(W:World):Prop:=∀v,W.cell? ⟨R,0,none⟩=some v→∀i,v.ownBlock=some i→i<W.heap.size
structure Spare (R n₀:Nat)(A B:World):Prop where
 below:Below n₀ A B
 same:∀i c t f,A.heap[i]?=some (.cells c t f)→zc3 R A i→B.heap[i]?=A.heap[i]?
 own:∀i,i<A.heap.size→zc3 R A i→zc3 R B i
 fr:FrR R A→FrR R B
theorem Spare.trans {R n₀:Nat}{A B C:World}(h:Spare R n₀ A B)(k:Spare R n₀ B C):Spare R n₀ A C:=
 ⟨h.below.trans k.below,fun i c t f hi hn=>(k.same i c t f ((h.same i c t f hi hn).trans hi) (h.own i (Array.getElem?_eq_some_iff.1 hi).1 hn)).trans (h.same i c t f hi hn),
  fun i hi hn=>k.own i (Nat.lt_of_lt_of_le hi h.below.size) (h.own i hi hn),fun f=>k.fr (h.fr f)⟩
theorem zc7 {W:World}{b o:Nat}{v:Value}(h:W.cell? ⟨b,o,none⟩=some v):∃c t f,W.heap[b]?=some (.cells c t f):=by
 unfold World.cell? at h
 split at h
 ·next c t f e=>exact⟨c,t,f,e⟩
 ·cases h
theorem Spare.cell {R n₀:Nat}{A B:World}(h:Spare R n₀ A B){i o:Nat}{v:Value}(hc:A.cell? ⟨i,o,none⟩=some v)(hn:zc3 R A i):B.cell? ⟨i,o,none⟩=some v:=by
 obtain⟨c,t,f,e⟩:=zc7 hc
 exact (World.cell?_of_block (w:=A) (a:=⟨i,o,none⟩) (h.same i c t f e hn)).trans hc
theorem Spare.frozen {R n₀:Nat}{A B:World}(h:Spare R n₀ A B){i o:Nat}{v:Value}(hc:A.cell? ⟨i,o,none⟩=some v)(hn:zc3 R A i):B.frozen? ⟨i,o,none⟩=A.frozen? ⟨i,o,none⟩:=by
 obtain⟨c,t,f,e⟩:=zc7 hc
 exact World.frozen?_of_block (w:=A) (a:=⟨i,o,none⟩) (h.same i c t f e hn)
theorem zc3.kept {R:Nat}{A B:World}{row:Option Nat}(hg:A.grownBy B row)(hR:R<A.heap.size)(hr:row≠some R){i:Nat}(h:zc3 R A i):zc3 R B i:=
 ⟨h.1,fun v hv=>h.2 v ((hg.cell_far ⟨R,0,none⟩ hR (fun e=>hr e.symm)).symm.trans hv)⟩
theorem FrR.kept {R:Nat}{A B:World}{row:Option Nat}(hg:A.grownBy B row)(hR:R<A.heap.size)(hr:row≠some R)(h:FrR R A):FrR R B:=
 fun v hv i hi=>Nat.lt_of_lt_of_le (h v ((hg.cell_far ⟨R,0,none⟩ hR (fun e=>hr e.symm)).symm.trans hv) i hi) hg.size
theorem zc3.new {R:Nat}{A:World}(hR:R<A.heap.size)(h:FrR R A):zc3 R A A.heap.size:=
 ⟨by omega,fun v hv e=>by have:=h v hv _ e;omega⟩
theorem C5.kept {W W':World}{b:Nat}{u:RS}{row:Option Nat}(h:C5 W b u)(hg:W.grownBy W' row)(hne:some b≠row):C5 W' b u:=
 ⟨hg.cell h.1 hne,hg.cell h.2.1 hne,hg.cell h.2.2.1 hne,hg.cell h.2.2.2.1 hne,hg.cell h.2.2.2.2 hne⟩
theorem C5.spare {R n₀:Nat}{A B:World}{b:Nat}{u:RS}(h:C5 A b u)(hs:Spare R n₀ A B)(hn:zc3 R A b):C5 B b u:=
 ⟨hs.cell h.1 hn,hs.cell h.2.1 hn,hs.cell h.2.2.1 hn,hs.cell h.2.2.2.1 hn,hs.cell h.2.2.2.2 hn⟩
theorem C5.lt {W:World}{b:Nat}{u:RS}(h:C5 W b u):b<W.heap.size:=za0 h.1
theorem C5.new (w:World)(u:RS)(t:TypeId):C5 (w.alloc (.cells (zb6 u) t)) w.heap.size u:=by
 unfold zb6
 exact⟨by simp[go_sem],by simp[go_sem],by simp[go_sem],by simp[go_sem],by simp[go_sem]⟩
def meetPost (A:Act)(R:World→Prop):Exit→Act→World→Prop
 | .normal,a,w=>a=A∧R w
 | _,_,_=>False
theorem wp_meet {P:Program}{c:Code}{Q:Exit→Act→World→Prop}{a:Act}{w:World}{A:Act}{R:World→Prop}(h1:c.wp P (meetPost A R) a w)(h2:∀W,R W→Q .normal A W):c.wp P Q a w:=
 Code.wp_mono (fun e a w h=>by
  cases e with
  | normal=>obtain⟨rfl,hr⟩:=h;exact h2 _ hr
  | _=>exact (h:False).elim) h1
theorem exit_named {Q:Exit→Act→World→Prop}{e:Exit}{a:Act}{w:World}(h:∀W,W=w→Q e a W):Q e a w:=h w rfl
def swF (i:Nat):Int:=if i=2 then 3 else if i=3 then 2 else (i:Int)
theorem valid_quad {a b c d:Nat}(ha:a<4)(hb:b<4)(hc:c<4)(hd:d<4)(h:a≠b∧a≠c∧a≠d∧b≠c∧b≠d∧c≠d)(p:Nat→Int)(p0:p 0=a)(p1:p 1=b)(p2:p 2=c)(p3:p 3=d):zc9 p=true:=by
 have key:∀a b c d:Fin 4,(a≠b∧a≠c∧a≠d∧b≠c∧b≠d∧c≠d)→(0 ||| 1 <<< a.val ||| 1 <<< b.val ||| 1 <<< c.val ||| 1 <<< d.val)=15:=by decide +kernel
 have k:=key ⟨a,ha⟩ ⟨b,hb⟩ ⟨c,hc⟩ ⟨d,hd⟩ (by simpa using h)
 simp only at k
 simp only[zc9,Bool.and_eq_true,beq_iff_eq,maskF,all4,p0,p1,p2,p3,Int.toNat_natCast,k,inB,decide_eq_true_eq,and_true]
 omega
theorem comp_first (a b c d:Nat)(ha:a<4)(hb:b<4)(hc:c<4)(hd:d<4)(h:a≠b∧a≠c∧a≠d∧b≠c∧b≠d∧c≠d)(w:World) :
  Calls Try.prog 132 #[.agg #[.int .i64 (a:Int),.int .i64 (b:Int),.int .i64 (c:Int),.int .i64 (d:Int)],.agg #[.int .i64 0,.int .i64 1,.int .i64 3,.int .i64 2]] w fun e w'=>e=.returned (.agg #[.int .i64 (a:Int),.int .i64 (b:Int),.int .i64 (d:Int),.int .i64 (c:Int)])∧Below w.heap.size w w':=by
 have:=Compose_walk (fun i=>if i=0 then (a:Int) else if i=1 then (b:Int) else if i=2 then (c:Int) else (d:Int)) swF w (valid_quad ha hb hc hd h _ rfl rfl rfl rfl) (by decide)
 exact this
theorem comp_second (p:Nat→Int)(P:Nat→Nat)(hp:zc9 p=true)(hP:∀i,i<4→p i=(P i:Int))(a b c d:Nat)(ha:a<4)(hb:b<4)(hc:c<4)(hd:d<4)(h:a≠b∧a≠c∧a≠d∧b≠c∧b≠d∧c≠d)(w:World) :
  Calls Try.prog 132 #[.agg #[.int .i64 (p 0),.int .i64 (p 1),.int .i64 (p 2),.int .i64 (p 3)],.agg #[.int .i64 (a:Int),.int .i64 (b:Int),.int .i64 (d:Int),.int .i64 (c:Int)]] w fun e w'=>e=.returned (.agg #[.int .i64 (P a:Int),.int .i64 (P b:Int),.int .i64 (P d:Int),.int .i64 (P c:Int)])∧Below w.heap.size w w':=by
 have:=Compose_walk p (fun i=>if i=0 then (a:Int) else if i=1 then (b:Int) else if i=2 then (d:Int) else (c:Int)) w hp (valid_quad ha hb hd hc ⟨h.1,h.2.2.1,h.2.1,h.2.2.2.2.1,h.2.2.2.1,h.2.2.2.2.2.symm⟩ _ rfl rfl rfl rfl)
 refine this.mono ?_
 rintro e w' ⟨rfl,hb'⟩
 refine⟨?_,hb'⟩
 rw[←hP a ha,←hP b hb,←hP c hc,←hP d hd]
 rfl
theorem five_ds {W:World}{b:Nat}{u:RS}(h:C5 W b u)(u':RS):C5 (((((W.setCell ⟨b,0,none⟩ (.int .i64 (u'.1:Int))).setCell ⟨b,1,none⟩ (.int .i64 (u'.2.1:Int))).setCell ⟨b,2,none⟩ (.int .i64 (u'.2.2.1:Int))).setCell ⟨b,3,none⟩ (.int .i64 (u'.2.2.2.1:Int))).setCell ⟨b,4,none⟩ (.int .i64 (u'.2.2.2.2:Int))) b u':=by
 obtain⟨h0,h1,h2,h3,h4⟩:=h
 have s:∀(W:World) (o o':Nat) (x v:Value),o≠o'→W.cell? ⟨b,o',none⟩=some x→(W.setCell ⟨b,o,none⟩ v).cell? ⟨b,o',none⟩=some x:=fun W o o' x v hne h=>zc0 h hne
 have t:∀(W:World) (o:Nat) (x v:Value),W.cell? ⟨b,o,none⟩=some x→(W.setCell ⟨b,o,none⟩ v).cell? ⟨b,o,none⟩=some v:=fun W o x v h=>World.cell?_setCell_same _ _ _ h
 refine⟨?_,?_,?_,?_,?_⟩
 ·exact s _ _ _ _ _ (by omega) (s _ _ _ _ _ (by omega) (s _ _ _ _ _ (by omega) (s _ _ _ _ _ (by omega) (t _ _ _ _ h0))))
 ·exact s _ _ _ _ _ (by omega) (s _ _ _ _ _ (by omega) (s _ _ _ _ _ (by omega) (t _ _ _ _ (s _ _ _ _ _ (by omega) h1))))
 ·exact s _ _ _ _ _ (by omega) (s _ _ _ _ _ (by omega) (t _ _ _ _ (s _ _ _ _ _ (by omega) (s _ _ _ _ _ (by omega) h2))))
 ·exact s _ _ _ _ _ (by omega) (t _ _ _ _ (s _ _ _ _ _ (by omega) (s _ _ _ _ _ (by omega) (s _ _ _ _ _ (by omega) h3))))
 ·exact t _ _ _ _ (s _ _ _ _ _ (by omega) (s _ _ _ _ _ (by omega) (s _ _ _ _ _ (by omega) (s _ _ _ _ _ (by omega) h4))))
theorem five_grown {A W:World}{b:Nat}(h:A.grownBy W (some b))(v0 v1 v2 v3 v4:Value):A.grownBy (((((W.setCell ⟨b,0,none⟩ v0).setCell ⟨b,1,none⟩ v1).setCell ⟨b,2,none⟩ v2).setCell ⟨b,3,none⟩ v3).setCell ⟨b,4,none⟩ v4) (some b):=by
 have g:∀(W:World) o v,A.grownBy W (some b)→A.grownBy (W.setCell ⟨b,o,none⟩ v) (some b):=fun W o v hw=>za2 hw (za1 W b o v)
 exact g _ _ _ (g _ _ _ (g _ _ _ (g _ _ _ (g _ _ _ h))))
theorem grown_row {A B:World}(h:A.grownBy B none)(row:Option Nat):A.grownBy B row:=⟨h.os,h.tape,h.output,h.size,fun k hk _=>h.block k hk (by simp)⟩
end
section
open Go.RowKit Go.Shelf
theorem walkIter_walk (a:Option Addr)(n c:Nat)(s:RS)(lb:Nat)(w:World) :
  Calls Try.prog 126 #[.agg #[.slice a n c],.agg (zb6 s),.int .i64 (lb:Int)] w fun e w'=>
   e=.returned (.func (.func 131) #[] #[.pointer (some ⟨w.heap.size+1,0,none⟩),.pointer (some ⟨w.heap.size,0,none⟩),.pointer (some ⟨w.heap.size+2,0,none⟩)]) ∧
   w'=((w.alloc (.cells #[.slice a n c] 24)).alloc (.cells (zb6 s) 160)).alloc (.cells #[.int .i64 (lb:Int)] 3):=by
 unfold zb6
 go_enter Try.func126,Try.ntmps126
 have hmf:∀(fn:Fn) (first cap:Array Value) (w:World),(Instr.makeFunc fn first cap).run Try.prog w=.ok (.func fn first cap) w:=fun _ _ _ _=>rfl
 go_wp2
 go_ret
 exact⟨rfl,rfl⟩
end
section
open Go.RowKit Go.Shelf
theorem info160:(Try.prog.info? 160).map (fun i=>(i.zero,i.size,i.bytes))=some (some (.agg #[.int .i64 0,.int .i64 0,.int .i64 0,.int .i64 0,.int .i64 0]),5,40):=by kernel_rfl
theorem und157:Try.prog.underlying 157=some (.slice 160):=by kernel_rfl
def zg6 (l:List RS):List Value:=l.flatMap fun u=>(zb6 u).toList
theorem rcells_snoc (l:List RS)(u:RS):zg6 (l++[u])=zg6 l++(zb6 u).toList:=by simp[zg6]
theorem spare_put {R N:Nat}{W:World}{l:Nat}{r r':Loop}(hN:N≤l)(h:W.heap[l]?=some (.loop r)):Spare R N W (W.putObj l (.loop r')):=by
 have hlt:l<W.heap.size:=(Array.getElem?_eq_some_iff.1 h).1
 have hg:W.grownBy (W.putObj l (.loop r')) (some l):=grownBy_putObj' W l _
 have far:∀i c t f,W.heap[i]?=some (.cells c t f)→some i≠some l:=fun i c t f hi e=>by
  cases e;rw[h] at hi;cases hi
 have cellR:∀v,(W.putObj l (.loop r')).cell? ⟨R,0,none⟩=some v→W.cell? ⟨R,0,none⟩=some v:=fun v hv=>by
  by_cases e:R=l
  ·subst e
   obtain⟨c,t,f,hc⟩:=zc7 hv
   rw[World.putObj_heap_same hlt] at hc;cases hc
  ·rw[←hv]
   exact (World.cell?_of_block (w:=W) (a:=⟨R,0,none⟩) (World.putObj_heap_other (by show R≠l;exact e):(W.putObj l (.loop r')).heap[R]?=W.heap[R]?)).symm
 refine⟨(Below.refl N W).grown hg (by omega) (fun k e=>by cases e;exact hN),fun i c t f hi _=>hg.block i (Array.getElem?_eq_some_iff.1 hi).1 (far i c t f hi),fun i _ hn=>⟨hn.1,fun v hv=>hn.2 v (cellR v hv)⟩,fun hf v hv i hi=>?_⟩
 have:=hf v (cellR v hv) i hi
 exact Nat.lt_of_lt_of_le this hg.size
structure RG (W0:World)(R:Nat)(L:List RS→Prop)(pre:List RS)(W:World):Prop where
 g:W0.grownBy W (some R)
 v:∃v,W.cell? ⟨R,0,none⟩=some v∧W.ownsRow W0.heap.size 160 5 v pre.length (zg6 pre)
 f:W.frozen? ⟨R,0,none⟩=false
 lim:L pre
theorem RG.kept {W0 W W':World}{R:Nat}{L:List RS→Prop}{pre:List RS}(hR:R<W0.heap.size)(h:RG W0 R L pre W){row:Option Nat}(hg:W.grownBy W' row)(hr:∀r,row=some r→W0.heap.size≤r∧∀v,W.cell? ⟨R,0,none⟩=some v→v.ownBlock≠some r):RG W0 R L pre W':=by
 obtain⟨v,hv,ho⟩:=h.v
 have hne:some R≠row:=fun e=>by have:=(hr R e.symm).1;omega
 refine⟨⟨hg.os.trans h.g.os,hg.tape.trans h.g.tape,hg.output.trans h.g.output,Nat.le_trans h.g.size hg.size,fun k hk hk2=>?_⟩,⟨v,hg.cell hv hne,ho.kept hg ?_⟩,?_,h.lim⟩
 ·exact (hg.block k (Nat.lt_of_lt_of_le hk h.g.size) (fun e=>by have:=(hr k e.symm).1;omega)).trans (h.g.block k hk hk2)
 ·cases hq:v.ownBlock with
  | none=>exact .inl rfl
  | some j=>exact .inr (fun e=>(hr j e.symm).2 v hv hq)
 ·exact (hg.frozen_far ⟨R,0,none⟩ (Nat.lt_of_lt_of_le hR h.g.size) hne).trans h.f
theorem RG.abides {W0:World}{R:Nat}{L:List RS→Prop}(hR:R<W0.heap.size):AbidesOk (zc3 R) (fun _=>False) W0.heap.size (RG W0 R L):=
 fun _pre _W _W' _row h hg hr=>h.kept hR hg (fun r e=>⟨(hr r e).1.resolve_right id,fun v hv=>(hr r e).2.2 v hv⟩)
theorem RG.own {W0:World}{R:Nat}{L:List RS→Prop}(hR:R<W0.heap.size):OwnFrom W0.heap.size (RG W0 R L):=
 fun pre W W' row h hg hr=>h.kept hR hg (fun r e=>⟨(hr r e).1,fun v hv hq=>by
  obtain⟨o,ho,hc⟩:=(hr r e).2
  obtain⟨v',hv',hown⟩:=h.v
  rw[hv] at hv'
  cases hv'
  rcases hown.2 with ⟨rfl,_⟩ | ⟨g,cap,cur,rfl,_,hgg,_⟩
  ·simp[Value.ownBlock] at hq
  ·simp[Value.ownBlock] at hq
   subst hq
   rw[hgg] at ho
   cases ho
   simp[Obj.isCells] at hc⟩)
theorem run_equal_ring (t u a0 a1 a2 a3 b0 b1 b2 b3:Int)(w:World) :
  (Op.equalIn 10000 160 (.agg #[.int .i64 t,.int .i64 a0,.int .i64 a1,.int .i64 a2,.int .i64 a3]) (.agg #[.int .i64 u,.int .i64 b0,.int .i64 b1,.int .i64 b2,.int .i64 b3])).run Try.prog w=.ok (t==u && (a0==b0 && (a1==b1 && (a2==b2 && a3==b3)))) w:=by
 have he:=run_equal_P4'
 by_cases h:t=u
 ·by_cases h0:a0=b0<;>by_cases h1:a1=b1<;>by_cases h2:a2=b2<;>by_cases h3:a3=b3 <;>
   simp[go_sem,he,h,h0,h1,h2,h3]
 ·simp[go_sem,he,h]
theorem ring_eq (x s:RS):((x.1:Int)==(s.1:Int) && ((x.2.1:Int)==(s.2.1:Int) && ((x.2.2.1:Int)==(s.2.2.1:Int) && ((x.2.2.2.1:Int)==(s.2.2.2.1:Int) && (x.2.2.2.2:Int)==(s.2.2.2.2:Int)))))=decide (x=s):=by
 have key:∀a b:Nat,((a:Int)==(b:Int))=decide (a=b):=fun a b=>by
  by_cases h:a=b
  ·subst h;simp
  ·rw[zc4 h];simp[h]
 obtain⟨a,b,c,d,e⟩:=x
 obtain⟨a',b',c',d',e'⟩:=s
 simp only[key,Prod.mk.injEq,Bool.decide_and]
theorem pth_get {G:Gl}{l:Nat}{s:RS}:∀{k:Nat},(∀i,i<k→itr G l s i≠none)→∀i,i<k→(pth G l s k)[i]?=itr G l s i:=by
 intro k
 induction k with
 | zero=>intro _ i hi;omega
 | succ k ih=>
  intro h i hi
  have hl:(pth G l s k).length=k:=by
   clear hi
   have:∀j,j≤k→(pth G l s j).length=j:=by
    intro j
    induction j with
    | zero=>intro _;rfl
    | succ j ihj=>
     intro hj
     cases e:itr G l s j with
     | none=>exact absurd e (h j (by omega))
     | some u=>rw[pth_succ e,List.length_append,ihj (by omega)];rfl
   exact this k (Nat.le_refl _)
  cases e:itr G l s k with
  | none=>exact absurd e (h k (by omega))
  | some u=>
   rw[pth_succ e]
   by_cases q:i=k
   ·subst q
    rw[List.getElem?_append_right (by omega),hl,Nat.sub_self,e];rfl
   ·rw[List.getElem?_append_left (by omega)]
    exact ih (fun j hj=>h j (by omega)) i (by omega)
structure RX (w:World)(N K:Nat)(s:RS)(pre:List RS)(W:World):Prop where
 ex:∃pre0 v,pre=pre0++[s]∧0<pre0.length∧(∀i,0<i→pre0[i]?≠some s)∧W.cell? ⟨N+1+1,0,none⟩=some v∧W.ownsRow K 160 5 v pre0.length (zg6 pre0)
 b:Below N w W
 c3:W.cell? ⟨N+1+1+1,0,none⟩=some (.bool true)
 c4:W.cell? ⟨N+1+1+1+1,0,none⟩=some (.int .i64 0)
theorem RX.kept {w W W':World}{N K:Nat}{s:RS}{pre:List RS}(hN:N+1+1+1+1<K)(h:RX w N K s pre W){row:Option Nat}(hg:W.grownBy W' row)(hr:∀r,row=some r→K≤r∧∀v,W.cell? ⟨N+1+1,0,none⟩=some v→v.ownBlock≠some r):RX w N K s pre W':=by
 obtain⟨pre0,v,e,h0,hl,hv,ho⟩:=h.ex
 have ne:∀i,i<K→some i≠row:=fun i hi e=>by have:=(hr i e.symm).1;omega
 have hs:N≤W.heap.size:=by have:=za0 hv;simp only at this;omega
 refine⟨⟨pre0,v,e,h0,hl,hg.cell hv (ne _ (by simp only;omega)),ho.kept hg ?_⟩,h.b.grown hg hs (fun k hk=>by have:=(hr k hk).1;omega),hg.cell h.c3 (ne _ (by simp only;omega)),hg.cell h.c4 (ne _ (by simp only;omega))⟩
 cases hq:v.ownBlock with
 | none=>exact .inl rfl
 | some j=>exact .inr (fun e=>(hr j e.symm).2 v hv hq)
theorem RX.abides {w:World}{N K:Nat}{s:RS}(hN:N+1+1+1+1<K):AbidesOk (zc3 (N+1+1)) (fun _=>False) K (RX w N K s):=
 fun _pre _W _W' _row h hg hr=>h.kept hN hg (fun r e=>⟨(hr r e).1.resolve_right id,fun v hv=>(hr r e).2.2 v hv⟩)
theorem RX.own {w:World}{N K:Nat}{s:RS}(hN:N+1+1+1+1<K):OwnFrom K (RX w N K s):=
 fun pre W W' row h hg hr=>h.kept hN hg (fun r e=>⟨(hr r e).1,fun v hv hq=>by
  obtain⟨o,ho,hc⟩:=(hr r e).2
  obtain⟨pre0,v',e0,h0,hl,hv',hown⟩:=h.ex
  rw[hv] at hv'
  cases hv'
  rcases hown.2 with ⟨rfl,_⟩ | ⟨g,cap,cur,rfl,_,hgg,_⟩
  ·simp[Value.ownBlock] at hq
  ·simp[Value.ownBlock] at hq
   subst hq
   rw[hgg] at ho
   cases ho
   simp[Obj.isCells] at hc⟩)
def RVar (A:Act)(p x:Nat)(K:Nat)(u:RS)(a':Act)(W:World):Prop:=
 ∃b,C5 W b u∧K≤b∧a'={ tmps:=(A.tmps.setIfInBounds p (.agg (zb6 u))).setIfInBounds x (.pointer (some ⟨b,0,none⟩)),defers:=[] }
theorem RVar.own {A:Act}{p x K:Nat}{u:RS}{a':Act}:OwnFrom K (fun (_:Unit) W=>RVar A p x K u a' W):=fun _ X Y row h hg hr=>by
 obtain⟨b,hc,hb,e⟩:=h
 refine⟨b,hc.kept hg (fun q=>?_),hb,e⟩
 obtain⟨o,ho,hcs⟩:=(hr b q.symm).2
 obtain⟨c,t,f,hh⟩:=zc7 hc.1
 rw[hh] at ho
 cases ho
 simp[Obj.isCells] at hcs
theorem spare_new {R N:Nat}{W W':World}(hg:W.grownBy W' none)(hR:R<W.heap.size)(hN:N≤W.heap.size):Spare R N W W':=
 ⟨(Below.refl N W).grown hg hN (fun k e=>by cases e),fun i c t f hi _=>hg.block i (Array.getElem?_eq_some_iff.1 hi).1 (by simp),fun i _ hn=>hn.kept hg hR (by simp),fun hf=>hf.kept hg hR (by simp)⟩
theorem zf3 {n l:Nat}{P:Program}{ops:Array Oper}{rest:List Oper}{o:Oper}{a:Act}{Q:Exit→Act→World→Prop}(w:World)(hgd:o.guard=none)(s x:Operand)(t:TypeId)
  (ho:o.op=.call { callee:=.builtin .append,args:=#[s,x],argTypes:=#[t,t] })
  (base:Nat) (e:TypeId) (i:TypeInfo) (z:Value) (size bytes:Nat) (ht:P.underlying t=some (.slice e)) (hi:P.info? e=some i) (hz:i.zero=some z)
  (hsize:i.size=size) (hby:i.bytes=bytes) (hzs:z.cells.size=size) (hsz:0<size)
  (v:Value) (k:Nat) (xs:List Value) (hs:a.eval s=v) (hown:w.ownsRow base e size v k xs)
  (ad:Addr) (m c:Nat) (news:List Value) (hx:a.eval x=.slice (some ad) m c) (hl:news.length=m*size) (hnews:∀j u,news[j]?=some u→w.cell? (ad.add j)=some u) (h1:∀u∈news,u.oneCell'=true)
  (hm:0<m) (h63:k+m≤maxLen) (hbytes:(k+m)*bytes≤140737488355328) (hbase:base≤w.heap.size) (H:Nat) (hH:w.heap.size=H)
  (h:∀g cap w',w'.ownsRow base e size (.slice (some ⟨g,0,none⟩) (k+m) cap) (k+m) (xs++news)→w.grownBy w' v.ownBlock→(v.ownBlock=some g∨g=H)→g<w'.heap.size→wpListIn (Fence.wide.inRound l) n P ops Q rest (a.put o.dst (.slice (some ⟨g,0,none⟩) (k+m) cap)) w') :
  wpListIn (Fence.wide.inRound l) n P ops Q (o :: rest) a w:=
 wpListIn_plain hgd fun K hK=>wpIn_of_wp_op l n (fun c e=>by rw[ho] at e;cases e)
  (wp_append_lies w s x t ho base e i z size bytes ht hi hz hsize hby hzs hsz v k xs hs hown ad m c news hx hl hnews h1 hm h63 hbytes hbase H hH fun g cap w' h2 h3 h4 h5=>hK _ _ (h g cap w' h2 h3 h4 h5))
theorem RG.push {W0 W w1:World}{R N:Nat}{L:List RS→Prop}{x:RS}{pre:List RS}{ga:Option Addr}{cp g cap:Nat}{o:Obj}(hR:R<W0.heap.size)(hN:N≤R)(h:RG W0 R L pre W)(hv:W.cell? ⟨R,0,none⟩=some (.slice ga pre.length cp))(hx:L (pre++[x]))
  (hown:w1.ownsRow W0.heap.size 160 5 (.slice (some ⟨g,0,none⟩) (pre.length+1) cap) (pre.length+1) (zg6 pre++(zb6 x).toList))
  (hgrow:(W.alloc o).grownBy w1 (Value.slice ga pre.length cp).ownBlock) (hat:(Value.slice ga pre.length cp).ownBlock=some g∨g=W.heap.size+1) (hlt:g<w1.heap.size) :
  KeepsFrom W0.heap.size W (w1.setCell ⟨R,0,none⟩ (.slice (some ⟨g,0,none⟩) (pre.length+1) cap))∧Spare R N W (w1.setCell ⟨R,0,none⟩ (.slice (some ⟨g,0,none⟩) (pre.length+1) cap))∧RG W0 R L (pre++[x]) (w1.setCell ⟨R,0,none⟩ (.slice (some ⟨g,0,none⟩) (pre.length+1) cap)):=by
 have hal:=World.grownBy_alloc W o none
 have hsc:=za1 w1 R 0 (.slice (some ⟨g,0,none⟩) (pre.length+1) cap)
 have hW:=h.g.size
 have hal2:=hal.size
 have hgs:=hgrow.size
 have hws:(w1.setCell ⟨R,0,none⟩ (.slice (some ⟨g,0,none⟩) (pre.length+1) cap)).heap.size=w1.heap.size:=by simp
 obtain⟨v',hv',ho⟩:=h.v
 rw[hv] at hv'
 cases hv'
 have hob:∀k,(Value.slice ga pre.length cp).ownBlock=some k→W0.heap.size≤k∧k<W.heap.size∧∃c t f,W.heap[k]?=some (.cells c t f):=fun k hk=>by
  rcases ho.2 with ⟨e,_⟩ | ⟨g',cap',cur,e,hb,hgg,_⟩
  ·rw[e] at hk;simp[Value.ownBlock] at hk
  ·rw[e] at hk
   simp[Value.ownBlock] at hk
   subst hk
   exact⟨hb,(Array.getElem?_eq_some_iff.1 hgg).1,_,_,_,hgg⟩
  -- a block that is neither R nor the row's
 have far:∀i,i<W.heap.size→i≠R→(Value.slice ga pre.length cp).ownBlock≠some i→(w1.setCell ⟨R,0,none⟩ (.slice (some ⟨g,0,none⟩) (pre.length+1) cap)).heap[i]?=W.heap[i]?:=fun i hi hne hno=>
  (hsc.block i (by omega) (by simpa using hne)).trans ((hgrow.block i (by omega) (fun e=>hno e.symm)).trans (hal.block i hi (by simp)))
 have hne1:(some R:Option Nat)≠(Value.slice ga pre.length cp).ownBlock:=fun e=>by have:=(hob R e.symm).1;omega
 have hcR:(w1.setCell ⟨R,0,none⟩ (.slice (some ⟨g,0,none⟩) (pre.length+1) cap)).cell? ⟨R,0,none⟩=some (.slice (some ⟨g,0,none⟩) (pre.length+1) cap):=
  World.cell?_setCell_same _ _ _ (hgrow.cell (hal.cell hv (by simp)) hne1)
 have hgR:g≠R:=by
  rcases hat with e | e
  ·have:=(hob g e).1;omega
  ·omega
 refine⟨⟨by omega,fun k ob hk hob2 hc=>?_⟩,⟨?_,fun i c t f hi hn=>far i (Array.getElem?_eq_some_iff.1 hi).1 hn.1 (hn.2 _ hv),fun i hi hn=>⟨hn.1,fun u hu=>?_⟩,fun _ u hu i hi=>?_⟩,⟨?_,⟨_,hcR,?_⟩,?_,hx⟩⟩
 ·rw[far k (Array.getElem?_eq_some_iff.1 hob2).1 (by omega) (fun e=>?_)]
  ·exact hob2
  ·obtain⟨c,t,f,e2⟩:=(hob k e).2.2
   rw[e2] at hob2;cases hob2;simp[Obj.isCells] at hc
 ·refine ((((Below.refl N W).alloc (by omega) o).grown hgrow (by omega) (fun k hk=>by have:=(hob k hk).1;omega))).setCell hN _
 ·rw[hcR] at hu
  cases hu
  simp only[Value.ownBlock,ne_eq,Option.some.injEq]
  intro e
  rcases hat with q | q
  ·subst e;exact hn.2 _ hv q
  ·omega
 ·rw[hcR] at hu
  cases hu
  simp only[Value.ownBlock,Option.some.injEq] at hi
  omega
 ·refine⟨hsc.os.trans (hgrow.os.trans (hal.os.trans h.g.os)),hsc.tape.trans (hgrow.tape.trans (hal.tape.trans h.g.tape)),hsc.output.trans (hgrow.output.trans (hal.output.trans h.g.output)),by omega,fun k hk hne=>?_⟩
  exact (far k (by omega) (fun e=>hne (by rw[e])) (fun e=>by have:=(hob k e).1;omega)).trans (h.g.block k hk hne)
 ·rw[List.length_append,rcells_snoc]
  exact hown.kept hsc (.inr (by simp[Value.ownBlock];exact hgR))
 ·rw[World.frozen?_setCell]
  exact (hgrow.frozen_far ⟨R,0,none⟩ (by show R<_;omega) hne1).trans ((hal.frozen_far ⟨R,0,none⟩ (by show R<_;omega) (by simp)).trans h.f)
def noRet (s:RS)(pre:List RS):Prop:=∀i,0<i→pre[i]?≠some s
theorem noRet.push {s x:RS}{pre:List RS}(h:noRet s pre)(hx:0<pre.length→x≠s):noRet s (pre++[x]):=by
 intro i hi e
 rcases Nat.lt_or_ge i pre.length with q | q
 ·rw[List.getElem?_append_left q] at e;exact h i hi e
 ·rw[List.getElem?_append_right q] at e
  have:i-pre.length=0:=by
   rcases Nat.eq_zero_or_pos (i-pre.length) with z | z
   ·exact z
   ·rw[List.getElem?_eq_none (by simp;omega)] at e;cases e
  rw[this] at e
  simp only[List.getElem?_cons_zero,Option.some.injEq] at e
  exact hx (by omega) e
theorem ownsRow_lower {w:World}{base base':Nat}{e:TypeId}{size:Nat}{v:Value}{n:Nat}{xs:List Value}(h:w.ownsRow base e size v n xs)(hb:base'≤base):w.ownsRow base' e size v n xs:=by
 refine⟨h.1,?_⟩
 rcases h.2 with h | ⟨g,cap,cur,h1,h2,h3⟩
 ·exact .inl h
 ·exact .inr ⟨g,cap,cur,h1,Nat.le_trans hb h2,h3⟩
end
section
open Go.RowKit Go.Shelf
def lastR (s:RS)(pre:List RS):RS:=pre.getLast?.getD s
theorem lastR_snoc (s x:RS)(pre:List RS):lastR s (pre++[x])=x:=by simp[lastR]
structure LS (W0:World)(S:Nat)(s:RS)(pre:List RS)(W:World):Prop where
 g:W0.grownBy W (some S)
 c:C5 W S (lastR s pre)
 f:∀o,W.frozen? ⟨S,o,none⟩=false
theorem LS.kept {W0 W W':World}{S:Nat}{s:RS}{pre:List RS}(hS:S<W0.heap.size)(h:LS W0 S s pre W){row:Option Nat}(hg:W.grownBy W' row)(hr:∀r,row=some r→W0.heap.size≤r):LS W0 S s pre W':=by
 have hne:some S≠row:=fun e=>by have:=hr S e.symm;omega
 refine⟨⟨hg.os.trans h.g.os,hg.tape.trans h.g.tape,hg.output.trans h.g.output,Nat.le_trans h.g.size hg.size,fun k hk hk2=>?_⟩,h.c.kept hg hne,fun o=>(hg.frozen_far ⟨S,o,none⟩ (Nat.lt_of_lt_of_le hS h.g.size) hne).trans (h.f o)⟩
 exact (hg.block k (Nat.lt_of_lt_of_le hk h.g.size) (fun e=>by have:=hr k e.symm;omega)).trans (h.g.block k hk hk2)
theorem LS.abides {W0:World}{S:Nat}{s:RS}(hS:S<W0.heap.size):AbidesOk (zc3 S) (fun _=>False) W0.heap.size (LS W0 S s):=fun _pre _W _W' _row h hg hr=>h.kept hS hg (fun r e=>(hr r e).1.resolve_right id)
theorem LS.own {W0:World}{S:Nat}{s:RS}(hS:S<W0.heap.size):OwnFrom W0.heap.size (LS W0 S s):=fun _pre _W _W' _row h hg hr=>h.kept hS hg (fun r e=>(hr r e).1)
theorem LS.set {W0 W:World}{S N:Nat}{s:RS}{pre:List RS}(hN:N≤S)(hS:S<W0.heap.size)(h:LS W0 S s pre W)(x:RS) :
  KeepsFrom W0.heap.size W (((((W.setCell ⟨S,0,none⟩ (.int .i64 (x.1:Int))).setCell ⟨S,1,none⟩ (.int .i64 (x.2.1:Int))).setCell ⟨S,2,none⟩ (.int .i64 (x.2.2.1:Int))).setCell ⟨S,3,none⟩ (.int .i64 (x.2.2.2.1:Int))).setCell ⟨S,4,none⟩ (.int .i64 (x.2.2.2.2:Int))) ∧
  Spare S N W (((((W.setCell ⟨S,0,none⟩ (.int .i64 (x.1:Int))).setCell ⟨S,1,none⟩ (.int .i64 (x.2.1:Int))).setCell ⟨S,2,none⟩ (.int .i64 (x.2.2.1:Int))).setCell ⟨S,3,none⟩ (.int .i64 (x.2.2.2.1:Int))).setCell ⟨S,4,none⟩ (.int .i64 (x.2.2.2.2:Int))) ∧
  LS W0 S s (pre++[x]) (((((W.setCell ⟨S,0,none⟩ (.int .i64 (x.1:Int))).setCell ⟨S,1,none⟩ (.int .i64 (x.2.1:Int))).setCell ⟨S,2,none⟩ (.int .i64 (x.2.2.1:Int))).setCell ⟨S,3,none⟩ (.int .i64 (x.2.2.2.1:Int))).setCell ⟨S,4,none⟩ (.int .i64 (x.2.2.2.2:Int))):=by
 have hg:=five_grown (zd2 W (some S)) (.int .i64 (x.1:Int)) (.int .i64 (x.2.1:Int)) (.int .i64 (x.2.2.1:Int)) (.int .i64 (x.2.2.2.1:Int)) (.int .i64 (x.2.2.2.2:Int))
 have hc:=five_ds h.c x
 have hN0:N≤W.heap.size:=by have:=h.g.size;omega
 refine⟨zd1 (zd1 (zd1 (zd1 (zd1 (KeepsFrom.refl _ _) _ _) _ _) _ _) _ _) _ _,⟨(Below.refl N W).grown hg hN0 (fun k e=>by cases e;exact hN),fun i c t f hi hn=>hg.block i (Array.getElem?_eq_some_iff.1 hi).1 (fun e=>hn.1 (by cases e;rfl)),fun i _ hn=>⟨hn.1,fun v hv=>?_⟩,fun _ v hv=>?_⟩,⟨za2 h.g hg,by rw[lastR_snoc];exact hc,fun o=>?_⟩⟩
 ·rw[hc.1] at hv;cases hv;simp[Value.ownBlock]
 ·rw[hc.1] at hv;cases hv;simp[Value.ownBlock]
 ·simp only[World.frozen?_setCell];exact h.f o
theorem walk126_facts (W:World)(a:Option Addr)(n cap:Nat)(s:RS)(lb:Nat){W':World}(e:W'=((W.alloc (.cells #[.slice a n cap] 24)).alloc (.cells (zb6 s) 160)).alloc (.cells #[.int .i64 (lb:Int)] 3)) :
  W.grownBy W' none∧W'.heap.size=W.heap.size+3∧C5 W' (W.heap.size+1) s∧W'.cell? ⟨W.heap.size,0,none⟩=some (.slice a n cap)∧W'.cell? ⟨W.heap.size+2,0,none⟩=some (.int .i64 (lb:Int)):=by
 subst e
 have g1:=World.grownBy_alloc W (.cells #[.slice a n cap] 24) none
 have g2:=World.grownBy_alloc (W.alloc (.cells #[.slice a n cap] 24)) (.cells (zb6 s) 160) none
 have f2:=C5.new (W.alloc (.cells #[.slice a n cap] 24)) s 160
 have g3:=World.grownBy_alloc ((W.alloc (.cells #[.slice a n cap] 24)).alloc (.cells (zb6 s) 160)) (.cells #[.int .i64 (lb:Int)] 3) none
 rw[World.size_alloc] at f2
 exact⟨za2 g1 (za2 g2 g3),by simp,f2.kept g3 (by simp),g3.cell (g2.cell (by simp[go_sem]) (by simp)) (by simp),by simp[go_sem]⟩
theorem start_ends {G:Gl}(hok:za9 G=true){s:RS}(hs:Rok G.n s){k m:Nat}(hall:∀i,i<k→itr G 3 s i≠none)(hm:itr G 2 s m=none) :
  Rok G.n (lastR s (pth G 3 s k))∧itr G 2 (lastR s (pth G 3 s k)) (k+m)=none:=by
 cases k with
 | zero=>
  have e:lastR s (pth G 3 s 0)=s:=rfl
  rw[e]
  exact⟨hs,zg9 hm (by omega)⟩
 | succ k=>
  cases e:itr G 3 s k with
  | none=>exact absurd e (hall k (by omega))
  | some u=>
   rw[pth_succ e,lastR_snoc]
   have hb:=itr_back hok (.inr ⟨rfl,rfl⟩) hs e
   refine⟨zf7 hok hs e,?_⟩
   have:itr G 2 u (k+m)=none:=by rw[itr_add,hb];exact hm
   exact zg9 this (by omega)
end
section
open Go.RowKit Go.Shelf
theorem ring_iter {G:Gl}(hok:za9 G=true){lb mb:Nat}(hlm:(lb=2∧mb=3)∨(lb=3∧mb=2)){s:RS}(hs:Rok G.n s)(n:Nat)(hn:1≤n)(v:Value)(w:World)(N Bf Bg Bl R:Nat)(hN:N≤w.heap.size)(hG:GlAt N w v G)
  (hf:C5 w Bf s) (hg:w.cell? ⟨Bg,0,none⟩=some v) (hl:w.cell? ⟨Bl,0,none⟩=some (.int .i64 (lb:Int))) (hng:zc3 R w Bg) (hnl:zc3 R w Bl) (hR:R<w.heap.size) (hfr:FrR R w)
  (M:Nat) (lim:List RS→Prop) (hM:∀k,(∀i,i<k→itr G lb s i≠none)→lim (pth G lb s k)→k≤M) :
  SeqLim n Try.prog 131 #[.pointer (some ⟨Bf,0,none⟩),.pointer (some ⟨Bg,0,none⟩),.pointer (some ⟨Bl,0,none⟩)] encR (zc3 R) (fun _=>False) (Spare R N) lim
   (fun xs=>∃k,(∀i,i<k→itr G lb s i≠none)∧itr G lb s k=none∧xs=pth G lb s k) (fun pre=>∃k,(∀i,i<k→itr G lb s i≠none)∧pre=pth G lb s k) M w:=by
 intro l J Jx W hW hJ hJx hlim hY h0
 refine callsIn_wide.2 ?_
 show Calls Try.prog 131 #[.func (.yield l) #[] #[],.pointer (some ⟨Bf,0,none⟩),.pointer (some ⟨Bg,0,none⟩),.pointer (some ⟨Bl,0,none⟩)] W _
 have hgW:=za6 hW (Nat.le_refl _) none
 have hfW:=hf.kept hgW (by simp)
 have hgc:=hgW.cell hg (by simp)
 have hlc:=hgW.cell hl (by simp)
 have hngW:=hng.kept hgW hR (by simp)
 have hnlW:=hnl.kept hgW hR (by simp)
 have hfrW:=hfr.kept hgW hR (by simp)
 have hRW:R<W.heap.size:=Nat.lt_of_lt_of_le hR hW.size
 have hGW:=hG.below (hW.mono hN)
 have hNW:N≤W.heap.size:=Nat.le_trans hN hW.size
 have HW:=Hd6 hgc hlc hngW hnlW hfrW hGW
 have HF:=Lib.hid hfW
 have HS:=Hd4 hok hlm hs hM
 have HJ:=Hd5 hJ hJx hlim hY h0
 obtain⟨c0,c1,c2,c3,c4⟩:=hfW
 clear hok hlm hs hM hJ hJx hlim hY h0 hgc hlc hngW hnlW hfrW hGW hgW hf hg hl hng hnl hfr hG hW
 go_enter Try.func131,Try.ntmps131
 go_wp2
 clear c0 c1 c2 c3 c4
 refine zb3 fun W1 hW1=>?_
 have h1:C5 W1 W.heap.size s∧W.grownBy W1 none∧W.heap.size<W1.heap.size∧∀o,W1.frozen? ⟨W.heap.size,o,none⟩=false:=by
  rw[hW1];exact⟨C5.new W s 160,World.grownBy_alloc W _ none,by simp,fun o=>by simp[go_sem]⟩
 obtain⟨h1c,h1g,h1s,h1f⟩:=h1
 have HFZ:=Lib.hid h1f;clear h1f
 clear hW1
 have H1:=Hd2 h1c h1g;clear h1c h1g
 go_loopg [5] (M+1) (fun g p wr=>∃(k:Nat) (u:RS) (b:Nat),g+k=M+1∧p=.pointer (some ⟨b,0,none⟩)∧W.heap.size≤b∧(∀i,i<k→itr G lb s i≠none)∧itr G lb s k=some u∧C5 wr b u∧J (pth G lb s k) wr∧Below N W wr∧zc3 R wr b∧zc3 R wr Bg∧zc3 R wr Bl∧FrR R wr∧wr.cell? ⟨Bg,0,none⟩=some v∧wr.cell? ⟨Bl,0,none⟩=some (.int .i64 (lb:Int))∧(∀o,wr.frozen? ⟨b,o,none⟩=false))
 case atStart=>
  refine⟨0,s,W.heap.size,by omega,rfl,Nat.le_refl _,by omega,rfl,H1.out.1,?_,(Below.refl N W).grown H1.out.2 hNW (fun k hk=>by cases hk),?_,HW.out.2.2.1.kept H1.out.2 hRW (by simp),HW.out.2.2.2.1.kept H1.out.2 hRW (by simp),HW.out.2.2.2.2.1.kept H1.out.2 hRW (by simp),H1.out.2.cell HW.out.1 (by simp),H1.out.2.cell HW.out.2.1 (by simp),HFZ.out⟩
  ·exact HJ.out.1 _ _ _ _ HJ.out.2.2.2.2 H1.out.2 (fun r e=>by cases e)
  ·exact (zc3.new hRW HW.out.2.2.2.2.1).kept H1.out.2 hRW (by simp)
 case round=>
  clear H1 h1s HFZ
  obtain⟨k,u,b,hgk,rfl,hbW,hall,hu,hc,hJk,hB,nb,ng,nl,hfr,gc,lc,hfz⟩:=hrel
  have hkM:k≤M:=HS.out.2.2.2 k hall (HJ.out.2.2.1 _ _ hJk)
  obtain⟨fn,tmps,assign,body,hy,hRd⟩:=HJ.out.2.2.2.1 (pth G lb s k) u wr hJk (by rw[pth_len hall];exact hkM)
  have hok:=zf7 HS.out.1 HS.out.2.2.1 hu
  have HK:=Hd13 hall hu hc hJk hB nb ng nl hfr gc lc hfz hok
  obtain⟨c0,c1,c2,c3,c4⟩:=hc
  have hbl:=za0 c0
  simp only at hbl
  unfold encR at hy
  clear hall hu hJk hB nb ng nl hfr gc lc hfz hok
  refine (wpIn_wide (n:=n)).1 ?_
  gi_wp2
  refine hRd.mono ?_
  rintro e W3 (⟨rfl,hJ3,hs3⟩ | ⟨rfl,hJx3⟩)
  ·clear hy hRd c0 c1 c2 c3 c4
   obtain⟨hall,hu,hc,hJk,hB,nb,ng,nl,hfr,gc,lc,hfz,hok⟩:=HK.out
   have hc3:=hc.spare hs3 nb
   have nb3:=hs3.own b hbl nb
   have ng3:=hs3.own Bg (za0 gc) ng
   have nl3:=hs3.own Bl (za0 lc) nl
   have fr3:=hs3.fr hfr
   have gc3:=hs3.cell gc ng
   have lc3:=hs3.cell lc nl
   have hB3:=hB.trans hs3.below
   have fz3:∀o,W3.frozen? ⟨b,o,none⟩=false:=fun o=>by
    obtain⟨c,t,f,e⟩:=zc7 hc.1
    exact (World.frozen?_of_block (w:=wr) (a:=⟨b,o,none⟩) (hs3.same b c t f e nb)).trans (hfz o)
   have hG3:=HW.out.2.2.2.2.2.below hB3
   have hRW3:R<W3.heap.size:=Nat.lt_of_lt_of_le hRW hB3.size
   have hJ4:J (pth G lb s (k+1)) W3:=by rw[pth_succ hu];exact hJ3
   have hall4:∀i,i<k+1→itr G lb s i≠none:=fun i hi=>by
    by_cases e:i=k
    ·subst e;rw[hu];simp
    ·exact hall i (by omega)
   have hb3:b<W3.heap.size:=hc3.lt
   have hlb:lb<4:=by have:=HS.out.2.1;omega
   have hr4:=rp_lt hok lb
   have hcl:W3.cell? ⟨b,1+lb,none⟩=some (.int .i64 (rp u lb:Int)):=by
    rcases HS.out.2.1 with ⟨e,_⟩ | ⟨e,_⟩
    ·rw[e];exact hc3.2.2.2.1
    ·rw[e];exact hc3.2.2.2.2
   have ht:=hok.t
   have hst:stp G lb u=itr G lb s (k+1):=by simp only[itr,hu,Option.bind_some]
   obtain⟨x0,x1,x2,x3,x4⟩:=hc3
   obtain⟨ga,bb,off,cap,rfl,hga,hcc⟩:=hG3
   obtain⟨rfl,hbN⟩:=hga (by omega)
   obtain⟨p,hp⟩:=hcc (4*u.1+rp u lb) (by omega)
   have p0:=hp 0 (by omega)
   have p1:=hp 1 (by omega)
   have p2:=hp 2 (by omega)
   have p3:=hp 3 (by omega)
   rw[show off+5*(4*u.1+rp u lb)=off+u.1*20+rp u lb*5 by omega] at p p0 p1 p2 p3
   have HP:=Hd9 hst hok hJ4 hall4 hB3 nb3 ng3 nl3 fr3
   clear hs3 hJ3 hall hu hc hJk hB nb ng nl hfr gc lc hfz hok nb3 ng3 nl3 fr3 hB3 hJ4 hall4 hcc hga hp hst HK
   obtain⟨K4,hK4⟩:∃x,x=4*u.1+rp u lb:=⟨_,rfl⟩
   rw[←hK4] at p p0 p1 p2 p3
   have HK4:=Lib.hid hK4;clear hK4
   obtain⟨t,ut⟩:∃x,x=u.1:=⟨_,rfl⟩
   obtain⟨fi,uf⟩:∃x,x=rp u lb:=⟨_,rfl⟩
   rw[←ut] at x0 p p0 p1 p2 p3 ht
   rw[←uf] at hcl p p0 p1 p2 p3 hr4
   rw[←ut]
   have HU:=Hd2 ut uf;clear ut uf
   replace p0:W3.cell? ⟨bb,off+t*20+fi*5+1,none⟩=some (.int .i64 (G.pm K4 0)):=p0
   replace p1:W3.cell? ⟨bb,off+t*20+fi*5+2,none⟩=some (.int .i64 (G.pm K4 1)):=p1
   replace p2:W3.cell? ⟨bb,off+t*20+fi*5+3,none⟩=some (.int .i64 (G.pm K4 2)):=p2
   replace p3:W3.cell? ⟨bb,off+t*20+fi*5+4,none⟩=some (.int .i64 (G.pm K4 3)):=p3
   have t0:0≤(t:Int):=by omega
   have tn:(t:Int)<(G.n:Int):=by omega
   have fi0:0≤(fi:Int):=by omega
   have fi4:(fi:Int)<4:=by omega
   have lb0:0≤(lb:Int):=by omega
   have lb4:(lb:Int)<4:=by omega
   gi_wp2
   refine wpIn_wide.2 ?_
   have gc3a:=za4 gc3
   have lc3a:=za4 lc3
   have x0a:=za4 x0
   have hcla:=za4 hcl
   have pa:=za4 p
   have p0a:=za4 p0
   have p1a:=za4 p1
   have p2a:=za4 p2
   have p3a:=za4 p3
   go_region
   refine exit_named fun W4 hW4=>?_
   have h4:W3.grownBy W4 none∧W4.cell? ⟨W3.heap.size,0,none⟩=some (.int .i64 (G.tet K4))∧W4.cell? ⟨W3.heap.size,1,none⟩=some (.int .i64 (G.pm K4 0))∧W4.cell? ⟨W3.heap.size,2,none⟩=some (.int .i64 (G.pm K4 1))∧W4.cell? ⟨W3.heap.size,3,none⟩=some (.int .i64 (G.pm K4 2))∧W4.cell? ⟨W3.heap.size,4,none⟩=some (.int .i64 (G.pm K4 3)):=by
    rw[hW4]
    exact⟨za2 (World.grownBy_alloc W3 _ none) (zb0 _ _),by simp[go_sem],by simp[go_sem],by simp[go_sem],by simp[go_sem],by simp[go_sem]⟩
   obtain⟨g4,q0,q1,q2,q3,q4⟩:=h4
   have hs4:=g4.size
   clear hW4 gc3a lc3a x0a hcla pa p0a p1a p2a p3a p p0 p1 p2 p3 hcl
   have y0:=g4.cell x0 (by simp)
   have y1:=g4.cell x1 (by simp)
   have y2:=g4.cell x2 (by simp)
   have y3:=g4.cell x3 (by simp)
   have y4:=g4.cell x4 (by simp)
   have yf:∀o,W4.frozen? ⟨b,o,none⟩=false:=fun o=>(g4.frozen_far ⟨b,o,none⟩ hb3 (by simp)).trans (fz3 o)
   have HX:=Hd8 g4 gc3 lc3 x0 x1 x2 x3 x4
   clear x0 x1 x2 x3 x4 gc3 lc3 fz3 g4
   have hb4:b<W4.heap.size:=za0 y0
   have hk4:K4<4*G.n:=by
    have:=HK4.out;have:=HU.out;omega
   by_cases hT:G.tet K4<0
   ·gi_wp2
    obtain⟨hst,hok,hJ4,hall4,_⟩:=HP.out
    refine bodyPost_ret (results_none rfl _ _ _) rfl ?_
    refine⟨⟨_,rfl⟩,.inl ⟨_,⟨k+1,hall4,?_,rfl⟩,HJ.out.1 _ _ _ _ hJ4 HX.out.1 (fun r e=>by cases e)⟩⟩
    rw[←hst,stp,←HK4.out,if_pos hT]
   ·have hFc:=zc6 HS.out.1 hk4 hT
    have hV:=ok_valid HS.out.1 hk4 hT
    have hD:=HP.out.2.1.d
    have hL:=HP.out.2.1.l
    have L1:=fun w=>comp_first u.2.1 u.2.2.1 u.2.2.2.1 u.2.2.2.2 hL.1 hL.2.1 hL.2.2.1 hL.2.2.2 hD w
    have L2:=fun w=>comp_second (G.pm K4) (G.P K4) hV (fun i hi=>(hFc.2.2 i hi).1) u.2.1 u.2.2.1 u.2.2.2.1 u.2.2.2.2 hL.1 hL.2.1 hL.2.2.1 hL.2.2.2 hD w
    have hTT:=hFc.1
    have HT:=Lib.hid hT
    have L12:=Hd3 L1 L2 hTT
    clear hFc hV hD hL L1 L2 hTT
    gi_wp2
    refine wpIn_wide.2 ?_
    apply wp_meet (R:=fun W7=>C5 W7 b (G.T K4,G.P K4 u.2.1,G.P K4 u.2.2.1,G.P K4 u.2.2.2.2,G.P K4 u.2.2.2.1)∧W4.grownBy W7 (some b))
    case h1=>
     have hcb:W3.heap.size≠b:=by omega
     have q0d:W4.drew.cell? ⟨W3.heap.size,0,none⟩=some (.int .i64 (G.tet K4)):=q0
     have q1d:W4.drew.cell? ⟨W3.heap.size,1,none⟩=some (.int .i64 (G.pm K4 0)):=q1
     have q2d:W4.drew.cell? ⟨W3.heap.size,2,none⟩=some (.int .i64 (G.pm K4 1)):=q2
     have q3d:W4.drew.cell? ⟨W3.heap.size,3,none⟩=some (.int .i64 (G.pm K4 2)):=q3
     have q4d:W4.drew.cell? ⟨W3.heap.size,4,none⟩=some (.int .i64 (G.pm K4 3)):=q4
     go_region_with
      (first
       |(go_at_call 132;(with_reducible refine (L12.out.1 _).mono ?_);rintro e W5 ⟨rfl,hb5⟩;have g5:=Lib.hid (za6 hb5 (Nat.le_refl _) none);have q05:=g5.out.cell q0 (by simp);have q15:=g5.out.cell q1 (by simp);have q25:=g5.out.cell q2 (by simp);have q35:=g5.out.cell q3 (by simp);have q45:=g5.out.cell q4 (by simp);clear hb5)
       |(go_at_call 132;(with_reducible refine (L12.out.2.1 _).mono ?_);rintro e W6 ⟨rfl,hb6⟩;have g6:=Lib.hid (za6 hb6 (Nat.le_refl _) none);have q06:=g6.out.cell q05 (by simp);have q16:=g6.out.cell q15 (by simp);have q26:=g6.out.cell q25 (by simp);have q36:=g6.out.cell q35 (by simp);have q46:=g6.out.cell q45 (by simp);have y06:=g6.out.cell (g5.out.cell y0 (by simp)) (by simp);have y16:=g6.out.cell (g5.out.cell y1 (by simp)) (by simp);have y26:=g6.out.cell (g5.out.cell y2 (by simp)) (by simp);have y36:=g6.out.cell (g5.out.cell y3 (by simp)) (by simp);have y46:=g6.out.cell (g5.out.cell y4 (by simp)) (by simp);have yf6:∀o,W6.frozen? ⟨b,o,none⟩=false:=(fun o=>(g6.out.frozen_far ⟨b,o,none⟩ (show b<W5.heap.size from za0 (a:=⟨b,0,none⟩) (g5.out.cell y0 (by simp))) (by simp)).trans ((g5.out.frozen_far ⟨b,o,none⟩ (show b<W4.drew.heap.size from hb4) (by simp)).trans (yf o)));clear hb6))
     all_goals
      rw[L12.out.2.2]
      have hc6:C5 W6 b u:=⟨HU.out.1▸y06,y16,y26,y36,y46⟩
      exact⟨rfl,five_ds hc6 (G.T K4,G.P K4 u.2.1,G.P K4 u.2.2.1,G.P K4 u.2.2.2.2,G.P K4 u.2.2.2.1),five_grown (grown_row (za2 (za2 (zb0 _ _) g5.out) g6.out) _) _ _ _ _ _⟩
    case h2=>
     rintro W7 ⟨hc7,g47⟩
     obtain⟨hst,hok,hJ4,hall4,hB3,nb3,ng3,nl3,fr3⟩:=HP.out
     have g37:W3.grownBy W7 (some b):=za2 (grown_row HX.out.1 _) g47
     have hst2:itr G lb s (k+1)=some (G.T K4,G.P K4 u.2.1,G.P K4 u.2.2.1,G.P K4 u.2.2.2.2,G.P K4 u.2.2.2.1):=by rw[←hst,stp,←HK4.out,if_neg (by have:=HT.out;omega)]
     obtain⟨d0,d1,d2,d3,d4⟩:=hc7
     simp only at d0 d1 d2 d3 d4
     have H7:=Hd9 g37 hst2 hJ4 hall4 hB3 nb3 ng3 nl3 fr3
     clear g37 hst2 hJ4 hall4 hB3 nb3 ng3 nl3 fr3 hst hok
     gi_wp2
     go_roundg (gk-1)
     case measure=>omega
     case rel=>
      obtain⟨g37,hst2,hJ4,hall4,hB3,nb3,ng3,nl3,fr3⟩:=H7.out
      have g8:=World.grownBy_alloc W7 (.cells #[.int .i64 ((G.T K4:Nat):Int),.int .i64 ((G.P K4 u.2.1:Nat):Int),.int .i64 ((G.P K4 u.2.2.1:Nat):Int),.int .i64 ((G.P K4 u.2.2.2.2:Nat):Int),.int .i64 ((G.P K4 u.2.2.2.1:Nat):Int)] 160) none
      have hRW7:R<W7.heap.size:=Nat.lt_of_lt_of_le hRW3 g37.size
      have nbR:(some b:Option Nat)≠some R:=fun e=>nb3.1 (by simpa using e)
      have fr7:FrR R W7:=fr3.kept g37 hRW3 nbR
      have g38:=za2 g37 (grown_row g8 (some b))
      have hBgb:Bg≠b:=by have:=za0 HW.out.1;simp only at this;omega
      have hBlb:Bl≠b:=by have:=za0 HW.out.2.1;simp only at this;omega
      have hbN:N≤b:=by omega
      have hN3:N≤W3.heap.size:=Nat.le_trans hNW hB3.size
      have hW7:W.heap.size≤W7.heap.size:=Nat.le_trans hB3.size g37.size
      exact⟨k+1,(G.T K4,G.P K4 u.2.1,G.P K4 u.2.2.1,G.P K4 u.2.2.2.2,G.P K4 u.2.2.2.1),W7.heap.size,by omega,rfl,hW7,hall4,hst2,C5.new W7 (G.T K4,G.P K4 u.2.1,G.P K4 u.2.2.1,G.P K4 u.2.2.2.2,G.P K4 u.2.2.2.1) 160,
       HJ.out.1 _ _ _ _ hJ4 g38 (fun r e=>by cases e;exact⟨.inl hbW,nb3⟩),hB3.grown g38 hN3 (fun r e=>by cases e;exact hbN),(zc3.new hRW7 fr7).kept g8 hRW7 (by simp),ng3.kept g38 hRW3 nbR,nl3.kept g38 hRW3 nbR,fr3.kept g38 hRW3 nbR,
       g38.cell HX.out.2.1 (by simpa using hBgb),g38.cell HX.out.2.2.1 (by simpa using hBlb),fun o=>by simp[go_sem]⟩
  ·have H3:=Lib.hid hJx3;clear hJx3 hy hRd c0 c1 c2 c3 c4
   gi_wp2
   go_end0
   refine⟨⟨_,rfl⟩,.inr ⟨_,⟨k+1,fun i hi=>?_,rfl⟩,by rw[pth_succ HK.out.2.1];exact H3.out⟩⟩
   by_cases e:i=k
   ·subst e;rw[HK.out.2.1];simp
   ·exact HK.out.1 i (by omega)
end
end Go.Proofs.Ytlckpgahijlmoaa
