/- R02.next: the step behind a face. No condition. -/
import Derived.Test.YtlckpgahijlmoaaQ18
import Derived.Test.YtlckpgahijlmoaaQ23
set_option maxRecDepth 100000
set_option maxHeartbeats 8000000
namespace Go.Proofs.Ytlckpgahijlmoaa
section
open Go.RowKit Go.Shelf
def F4 (W:World)(b:Nat)(p:Nat→Nat):Prop:=∀i,i<4→W.cell? ⟨b,i,none⟩=some (.int .i64 (p i:Int))
theorem F4.new (W:World)(p:Nat→Nat)(t:TypeId)(b:Nat)(hb:b=W.heap.size):F4 (W.alloc (.cells #[.int .i64 (p 0:Int),.int .i64 (p 1:Int),.int .i64 (p 2:Int),.int .i64 (p 3:Int)] t)) b p:=fun i hi=>by
 subst hb
 match i,hi with
 | 0,_=>simp[go_sem]
 | 1,_=>simp[go_sem]
 | 2,_=>simp[go_sem]
 | 3,_=>simp[go_sem]
theorem F4.kept {W W':World}{b:Nat}{p:Nat→Nat}(h:F4 W b p)(hg:W.grownBy W' none):F4 W' b p:=fun i hi=>hg.cell (h i hi) (by simp)
theorem F4.other {W:World}{b c o:Nat}{p:Nat→Nat}{x:Value}(h:F4 W b p)(hn:b≠c):F4 (W.setCell ⟨c,o,none⟩ x) b p:=fun i hi=>
 (World.cell?_setCell_other (a:=⟨c,o,none⟩) (b:=⟨b,i,none⟩) _ _ (by simp<;>omega)).trans (h i hi)
structure CB (w W:World)(N:Nat)(p q:Nat→Nat)(k:Nat):Prop where
 hp:F4 W N p
 hq:F4 W (N+1) q
 hr:F4 W (N+2) (fun _=>0)
 ho:F4 W (N+3) (fun i=>if i<k then p (q i) else 0)
 fr:∀o,W.frozen? ⟨N+2,o,none⟩=false
 fo:∀o,W.frozen? ⟨N+3,o,none⟩=false
 bel:Below N w W
theorem CB.below {w W W':World}{N:Nat}{p q:Nat→Nat}{k:Nat}(h:CB w W N p q k)(hz:N+4≤W.heap.size)(hb:Below W.heap.size W W'):CB w W' N p q k:=by
 have hg:=za6 hb (Nat.le_refl _) none
 exact⟨h.hp.kept hg,h.hq.kept hg,h.hr.kept hg,h.ho.kept hg,fun o=>(hg.frozen_far ⟨N+2,o,none⟩ (by show N+2<_;omega) (by simp)).trans (h.fr o),fun o=>(hg.frozen_far ⟨N+3,o,none⟩ (by show N+3<_;omega) (by simp)).trans (h.fo o),h.bel.trans (hb.mono (by omega))⟩
structure Q4 (p:Nat→Nat):Prop where
 lt:∀i,i<4→p i<4
 ne:∀i j,i<4→j<4→i≠j→p i≠p j
theorem Q4.valid {p:Nat→Nat}(h:Q4 p):validR (fun i=>(p i:Int))=true:=
 validR_of (fun i hi=>zf2.2 ⟨by omega,by have:=h.lt i hi;omega⟩) (fun i j hi hj hn e=>h.ne i j hi hj hn (by omega))
theorem rcompose_walk (p q:Nat→Nat)(hp:Q4 p)(hq:Q4 q)(w:World) :
  Calls Try.prog 129 #[.agg #[.int .i64 (p 0:Int),.int .i64 (p 1:Int),.int .i64 (p 2:Int),.int .i64 (p 3:Int)],.agg #[.int .i64 (q 0:Int),.int .i64 (q 1:Int),.int .i64 (q 2:Int),.int .i64 (q 3:Int)]] w fun e w'=>
   e=.returned (.agg #[.int .i64 (p (q 0):Int),.int .i64 (p (q 1):Int),.int .i64 (p (q 2):Int),.int .i64 (p (q 3):Int)])∧Below w.heap.size w w':=by
 have hSp:=fun W=>zf0 (fun i=>(p i:Int)) W
 have hSq:=fun W=>zf0 (fun i=>(q i:Int)) W
 rw[hp.valid] at hSp
 rw[hq.valid] at hSq
 unfold P4 at hSp hSq
 have HS:=Hd2 hSp hSq
 have HQ:=Hd2 hp hq
 clear hSp hSq hp hq
 obtain⟨N,hN⟩:∃N,N=w.heap.size:=⟨_,rfl⟩
 rw[←hN]
 go_enter Try.func129,Try.ntmps129
 go_wp2_with fail
 refine zb4 fun W0 hW=>?_
 have h0:CB w W0 N p q 0∧W0.heap.size=N+4:=by
  have g1:=World.grownBy_alloc (w.alloc (.cells #[.int .i64 (p 0:Int),.int .i64 (p 1:Int),.int .i64 (p 2:Int),.int .i64 (p 3:Int)] 85)) (.cells #[.int .i64 (q 0:Int),.int .i64 (q 1:Int),.int .i64 (q 2:Int),.int .i64 (q 3:Int)] 85) none
  have g2:=World.grownBy_alloc ((w.alloc (.cells #[.int .i64 (p 0:Int),.int .i64 (p 1:Int),.int .i64 (p 2:Int),.int .i64 (p 3:Int)] 85)).alloc (.cells #[.int .i64 (q 0:Int),.int .i64 (q 1:Int),.int .i64 (q 2:Int),.int .i64 (q 3:Int)] 85)) (.cells #[.int .i64 0,.int .i64 0,.int .i64 0,.int .i64 0] 85) none
  have g3:=World.grownBy_alloc (((w.alloc (.cells #[.int .i64 (p 0:Int),.int .i64 (p 1:Int),.int .i64 (p 2:Int),.int .i64 (p 3:Int)] 85)).alloc (.cells #[.int .i64 (q 0:Int),.int .i64 (q 1:Int),.int .i64 (q 2:Int),.int .i64 (q 3:Int)] 85)).alloc (.cells #[.int .i64 0,.int .i64 0,.int .i64 0,.int .i64 0] 85)) (.cells #[.int .i64 0,.int .i64 0,.int .i64 0,.int .i64 0] 85) none
  have e1:=F4.new w p 85 N hN
  have e2:=F4.new (w.alloc (.cells #[.int .i64 (p 0:Int),.int .i64 (p 1:Int),.int .i64 (p 2:Int),.int .i64 (p 3:Int)] 85)) q 85 (N+1) (by simp[hN])
  have e3:=F4.new ((w.alloc (.cells #[.int .i64 (p 0:Int),.int .i64 (p 1:Int),.int .i64 (p 2:Int),.int .i64 (p 3:Int)] 85)).alloc (.cells #[.int .i64 (q 0:Int),.int .i64 (q 1:Int),.int .i64 (q 2:Int),.int .i64 (q 3:Int)] 85)) (fun _=>0) 85 (N+2) (by simp[hN])
  have e4:=F4.new (((w.alloc (.cells #[.int .i64 (p 0:Int),.int .i64 (p 1:Int),.int .i64 (p 2:Int),.int .i64 (p 3:Int)] 85)).alloc (.cells #[.int .i64 (q 0:Int),.int .i64 (q 1:Int),.int .i64 (q 2:Int),.int .i64 (q 3:Int)] 85)).alloc (.cells #[.int .i64 0,.int .i64 0,.int .i64 0,.int .i64 0] 85)) (fun i=>if i<0 then p (q i) else 0) 85 (N+3) (by simp[hN])
  refine⟨⟨by rw[hW];exact ((e1.kept g1).kept g2).kept g3,by rw[hW];exact (e2.kept g2).kept g3,by rw[hW];exact e3.kept g3,by rw[hW];exact e4,fun o=>by rw[hW,hN];simp[go_sem],fun o=>by rw[hW,hN];simp[go_sem],by rw[hW,hN];(repeat' (first | assumption | exact Below.refl _ _ | refine za7 ?_ (by assumption) | refine zb2 ?_ _ | refine za5 ?_ | refine zb1 ?_ (by simp<;>omega) _))⟩,by rw[hW,hN];simp⟩
 rw[←hN]
 clear hW hN
 obtain⟨h0,hz⟩:=h0
 refine (HS.out.1 W0).mono ?_
 rintro e W1 ⟨rfl,hb1⟩
 have h1:=h0.below (by omega) hb1
 have q0:=h1.hq 0 (by omega)
 have q1:=h1.hq 1 (by omega)
 have q2:=h1.hq 2 (by omega)
 have q3:=h1.hq 3 (by omega)
 have hz1:N+4≤W1.heap.size:=by have:=hb1.size;omega
 have H1:=Lib.hid h1
 clear h0 hb1 hz h1
 go_wp2_with fail
 refine (HS.out.2 W1).mono ?_
 rintro e W2 ⟨rfl,hb2⟩
 have H2:=Lib.hid (H1.out.below hz1 hb2)
 clear hb2 q0 q1 q2 q3 H1
 go_wp2
 go_loopw [6] (fun i wr=>∃k:Nat,k≤4∧i=.int .i64 k∧CB w wr N p q k) (fun i _=>4-(intOf i).toNat)
 case atStart=>exact⟨0,by omega,rfl,H2.out⟩
 case round=>
  clear H2
  obtain⟨k,hk,rfl,hC⟩:=hrel
  have HK:=Lib.hid hC
  rcases Nat.lt_or_ge k 4 with hk4 | hk4
  ·have k0:0≤(k:Int):=by omega
   have k4:(k:Int)<4:=by omega
   have x:=hC.hq k hk4
   have hc4:=HQ.out.2.lt k hk4
   obtain⟨c,hc⟩:∃c,c=q k:=⟨_,rfl⟩
   rw[←hc] at x hc4
   have HC:=Lib.hid hc
   have c0:0≤(c:Int):=by omega
   have c4:(c:Int)<4:=by omega
   have y:=hC.hp c hc4
   have z:=hC.ho k hk4
   have fz:=hC.fo k
   clear hC hc
   go_wp2
   go_roundw
   case rel=>
    refine⟨k+1,by omega,rfl,HK.out.hp.other (by omega),HK.out.hq.other (by omega),HK.out.hr.other (by omega),fun i hi=>?_,fun o=>by rw[World.frozen?_setCell];exact HK.out.fr o,fun o=>by rw[World.frozen?_setCell];exact HK.out.fo o,HK.out.bel.setCell (by show N≤N+3;omega) _⟩
    by_cases e:i=k
    ·subst e
     rw[World.cell?_setCell_same _ _ _ (HK.out.ho i hi),HC.out]
     simp
    ·rw[World.cell?_setCell_other (a:=⟨N+3,k,none⟩) (b:=⟨N+3,i,none⟩) _ _ (by simp<;>omega),HK.out.ho i hi]
     have:i<k+1↔i<k:=by omega
     simp[this]
   case measure=>simp[intOf];omega
  ·obtain rfl:k=4:=by omega
   have a0:wr.cell? ⟨N+3,0,none⟩=some (.int .i64 (p (q 0):Int)):=hC.ho 0 (by omega)
   have a1:wr.cell? ⟨N+3,1,none⟩=some (.int .i64 (p (q 1):Int)):=hC.ho 1 (by omega)
   have a2:wr.cell? ⟨N+3,2,none⟩=some (.int .i64 (p (q 2):Int)):=hC.ho 2 (by omega)
   have a3:wr.cell? ⟨N+3,3,none⟩=some (.int .i64 (p (q 3):Int)):=hC.ho 3 (by omega)
   have b0:wr.cell? ⟨N+2,0,none⟩=some (.int .i64 0):=hC.hr 0 (by omega)
   have b1:wr.cell? ⟨N+2,1,none⟩=some (.int .i64 0):=hC.hr 1 (by omega)
   have b2:wr.cell? ⟨N+2,2,none⟩=some (.int .i64 0):=hC.hr 2 (by omega)
   have b3:wr.cell? ⟨N+2,3,none⟩=some (.int .i64 0):=hC.hr 3 (by omega)
   have e0:=hC.fr 0
   have e1:=hC.fr 1
   have e2:=hC.fr 2
   have e3:=hC.fr 3
   clear hC
   go_wp2
   refine bodyPost_ret (v:=.agg #[.int .i64 (p (q 0):Int),.int .i64 (p (q 1):Int),.int .i64 (p (q 2):Int),.int .i64 (p (q 3):Int)]) (by simp[results,Try.results129,go_sem, *]) rfl ⟨rfl,?_⟩
   exact (((HK.out.bel.setCell (by show N≤N+2;omega) _).setCell (by show N≤N+2;omega) _).setCell (by show N≤N+2;omega) _).setCell (by show N≤N+2;omega) _
end
section
open Go.RowKit Go.Shelf
def selN (a b c d i:Nat):Nat:=if i=0 then a else if i=1 then b else if i=2 then c else d
theorem Q4.sel {a b c d:Nat}(h:(a<4∧b<4∧c<4∧d<4)∧a≠b∧a≠c∧a≠d∧b≠c∧b≠d∧c≠d):Q4 (selN a b c d):=by
 have hi4:∀i,i<4→i=0∨i=1∨i=2∨i=3:=fun i hi=>by omega
 obtain⟨⟨h1,h2,h3,h4⟩,d1,d2,d3,d4,d5,d6⟩:=h
 refine⟨fun i hi=>?_,fun i j hi hj hn=>?_⟩
 ·rcases hi4 i hi with rfl | rfl | rfl | rfl<;>simpa [selN]
 ·rcases hi4 i hi with rfl | rfl | rfl | rfl<;>rcases hi4 j hj with rfl | rfl | rfl | rfl<;>simp[selN] at hn ⊢<;>first | assumption|(apply Ne.symm;assumption)
def Kq (D:Nat)(W W':World):Prop:=W.heap.size≤W'.heap.size∧∀b,b<W.heap.size→b≠D→W'.heap[b]?=W.heap[b]?
theorem Kq.refl (D:Nat)(W:World):Kq D W W:=⟨Nat.le_refl _,fun _ _ _=>rfl⟩
theorem Kq.then {D:Nat}{W W1 W2:World}(h:Kq D W W1)(k:Kq D W1 W2):Kq D W W2:=
 ⟨Nat.le_trans h.1 k.1,fun b hb hd=>(k.2 b (Nat.lt_of_lt_of_le hb h.1) hd).trans (h.2 b hb hd)⟩
theorem Kq.below {D:Nat}{W W1 W2:World}(h:Kq D W W1)(k:Below W1.heap.size W1 W2):Kq D W W2:=h.then ⟨k.size,fun b hb _=>k.block b hb⟩
theorem Kq.dr {D:Nat}{W W1:World}(h:Kq D W W1):Kq D W W1.drew:=h
theorem Kq.sc {D:Nat}{W W1:World}(h:Kq D W W1)(o:Nat)(v:Value):Kq D W (W1.setCell ⟨D,o,none⟩ v):=
 h.then ⟨(za1 W1 D o v).size,fun b hb hd=>(za1 W1 D o v).block b hb (fun e=>hd (by simpa using e))⟩
theorem Kq.cell {D:Nat}{W W1:World}(h:Kq D W W1){b o:Nat}{v:Value}(hc:W.cell? ⟨b,o,none⟩=some v)(hd:b≠D):W1.cell? ⟨b,o,none⟩=some v:=
 (World.cell?_of_block (w:=W) (w':=W1) (a:=⟨b,o,none⟩) (h.2 b (za0 hc) hd)).trans hc
def nxA (o:Option RS):Value:=match o with | some u=>.tuple #[.agg (zb6 u),.bool true] | none=>.tuple #[.agg #[.int .i64 0,.int .i64 0,.int .i64 0,.int .i64 0,.int .i64 0],.bool false]
theorem rnext_walk {G:Gl}(hok:za9 G=true){s:RS}(hs:Rok G.n s)(l:Nat)(hl:l<4)(v:Value)(w:World)(hG:GlAt w.heap.size w v G) :
  Calls Try.prog 121 #[.agg #[v],.agg #[.int .i64 (s.1:Int),.int .i64 (s.2.1:Int),.int .i64 (s.2.2.1:Int),.int .i64 (s.2.2.2.1:Int),.int .i64 (s.2.2.2.2:Int)],.int .i64 (l:Int)] w fun e w'=>
   e=.returned (nxA (stp G l s))∧Below w.heap.size w w':=by
 have HS:=Hd2 hok hs
 have HG:=Lib.hid hG
 obtain⟨a,b,off,cap,rfl,hga,hgc⟩:=hG
 have ht:=hs.t
 have hr:=rp_lt hs l
 obtain⟨rfl,hb0⟩:=hga (by omega)
 obtain⟨t,sa,sb,sc,sd⟩:=s
 simp only at ht
 obtain⟨f,hf⟩:∃f,f=rp (t,sa,sb,sc,sd) l:=⟨_,rfl⟩
 rw[←hf] at hr
 obtain⟨N,hN⟩:∃N,N=w.heap.size:=⟨_,rfl⟩
 obtain⟨fb0,fb⟩:=hgc (4*t+f) (by omega)
 rw[show off+5*(4*t+f)=off+t*20+f*5 by omega] at fb0 fb
 obtain⟨T,hT⟩:∃T,T=G.tet (4*t+f):=⟨_,rfl⟩
 obtain⟨pp,hpp⟩:∃pp,pp=G.pm (4*t+f):=⟨_,rfl⟩
 rw[←hT] at fb0
 rw[←hpp] at fb
 have fb1:=fb 0 (by omega)
 have fb2:=fb 1 (by omega)
 have fb3:=fb 2 (by omega)
 have fb4:=fb 3 (by omega)
 rw[Nat.add_zero] at fb1
 rw[←hN]
 rw[←hN] at hb0
 go_enter Try.func121,Try.ntmps121
 go_wp2
 rw[←hN]
 refine zb3 fun W0 hW=>?_
 have h0:Below N w W0∧W0.cell? ⟨N,0,none⟩=some (.slice (some ⟨b,off,none⟩) G.n cap)∧C5 W0 (N+1) (t,sa,sb,sc,sd)∧(∀i,i<5→W0.cell? ⟨N+1+1,i,none⟩=some (.int .i64 0)∧W0.frozen? ⟨N+1+1,i,none⟩=false)∧W0.heap.size=N+3:=by
  rw[hW,hN]
  refine⟨by (repeat' (first | assumption | exact Below.refl _ _ | refine za7 ?_ (by assumption) | refine zb2 ?_ _ | refine za5 ?_ | refine zb1 ?_ (by simp<;>omega) _)),by simp[go_sem],⟨by simp[go_sem],by simp[go_sem],by simp[go_sem],by simp[go_sem],by simp[go_sem]⟩,fun i hi=>?_,by simp⟩
  rcases (show i=0∨i=1∨i=2∨i=3∨i=4 by omega) with rfl | rfl | rfl | rfl | rfl<;>simp[go_sem]
 obtain⟨hb,c0,h5,hres,hz⟩:=h0
 have cl:W0.cell? ⟨N+1,1+l,none⟩=some (.int .i64 (f:Int)):=by
  rw[hf]
  rcases (show l=0∨l=1∨l=2∨l=3 by omega) with rfl | rfl | rfl | rfl
  ·exact h5.2.1
  ·exact h5.2.2.1
  ·exact h5.2.2.2.1
  ·exact h5.2.2.2.2
 have ct:=h5.1
 have fw:∀o x,w.cell? ⟨b,o,none⟩=some x→W0.cell? ⟨b,o,none⟩=some x:=fun o x hx=>(hb.cell (p:=⟨b,o,none⟩) hb0).trans hx
 have p0:=fw _ _ fb0
 have p1:=fw _ _ fb1
 have p2:=fw _ _ fb2
 have p3:=fw _ _ fb3
 have p4:=fw _ _ fb4
 have H0:=Hd3 hb h5 hres
 have HT:=Hd3 hf hT hpp
 have c0a:=za4 c0
 have cla:=za4 cl
 have cta:=za4 ct
 have p0a:=za4 p0
 have p1a:=za4 p1
 have p2a:=za4 p2
 have p3a:=za4 p3
 have p4a:=za4 p4
 have t0:0≤(t:Int):=by omega
 have tn:(t:Int)<(G.n:Int):=by omega
 have f0:0≤(f:Int):=by omega
 have f4:(f:Int)<4:=by omega
 have l0:0≤(l:Int):=by omega
 have l4:(l:Int)<4:=by omega
 clear hW hb h5 hres fw fb fb0 fb1 fb2 fb3 fb4 hgc hga hf hT hpp hok hs hN
 go_region_held3 (fun w'=>w'.cell? ⟨N,0,none⟩=some (.slice (some ⟨b,off,none⟩) G.n cap)∧w'.cell? ⟨N+1,1+l,none⟩=some (.int .i64 (f:Int))∧w'.cell? ⟨N+1,0,none⟩=some (.int .i64 (t:Int)) ∧
   w'.cell? ⟨b,off+t*20+f*5,none⟩=some (.int .i64 T)∧w'.cell? ⟨b,off+t*20+f*5+1,none⟩=some (.int .i64 (pp 0))∧w'.cell? ⟨b,off+t*20+f*5+1+1,none⟩=some (.int .i64 (pp 1))∧w'.cell? ⟨b,off+t*20+f*5+1+2,none⟩=some (.int .i64 (pp 2))∧w'.cell? ⟨b,off+t*20+f*5+1+3,none⟩=some (.int .i64 (pp 3)))
  (first | exact⟨c0,cl,ct,p0,p1,p2,p3,p4⟩ | exact⟨c0a _,cla _,cta _,p0a _,p1a _,p2a _,p3a _,p4a _⟩)
  (fail)
 generalize hWc:World.drew (World.alloc W0 (Obj.cells #[.int .i64 T,.int .i64 (pp 0),.int .i64 (pp 1),.int .i64 (pp 2),.int .i64 (pp 3)] 87))=Wc
 have hcc:Below N w Wc∧C5 Wc (N+1) (t,sa,sb,sc,sd)∧(∀i,i<5→Wc.cell? ⟨N+1+1,i,none⟩=some (.int .i64 0)∧Wc.frozen? ⟨N+1+1,i,none⟩=false)∧Wc.cell? ⟨N+3,0,none⟩=some (.int .i64 T)∧Wc.cell? ⟨N+3,1,none⟩=some (.int .i64 (pp 0))∧Wc.cell? ⟨N+3,2,none⟩=some (.int .i64 (pp 1))∧Wc.cell? ⟨N+3,3,none⟩=some (.int .i64 (pp 2))∧Wc.cell? ⟨N+3,4,none⟩=some (.int .i64 (pp 3)):=by
  have hg:W0.grownBy Wc none:=by rw[←hWc];exact za2 (World.grownBy_alloc W0 _ none) (zb0 _ none)
  obtain⟨hb,h5,hres⟩:=H0.out
  refine⟨hb.grown hg (by omega) (fun k e=>by cases e),h5.kept hg (by simp),fun i hi=>⟨hg.cell (hres i hi).1 (by simp),(hg.frozen_far ⟨N+1+1,i,none⟩ (by show N+1+1<_;omega) (by simp)).trans (hres i hi).2⟩,?_,?_,?_,?_,?_⟩<;>rw[←hWc,←hz]<;>simp[go_sem]
 obtain⟨hb,h5,hres,e0,e1,e2,e3,e4⟩:=hcc
 have hzc:=za0 e0
 simp only at hzc
 have HB:=Lib.hid hb
 have HR:=Lib.hid hres
 clear hWc hb hres c0 cl ct p0 p1 p2 p3 p4 c0a cla cta p0a p1a p2a p3a p4a H0 hz
 rcases Int.lt_or_le T 0 with hT0 | hT0
 ·have q2:decide (T<0)=true:=by simpa using hT0
  have hst:stp G l (t,sa,sb,sc,sd)=none:=by
   unfold stp
   rw[←HT.out.1,if_pos (by show G.tet (4*t+f)<0;rw[←HT.out.2.1];exact hT0)]
  have HST:=Lib.hid hst
  obtain⟨r0,z0⟩:=HR.out 0 (by omega)
  obtain⟨r1,z1⟩:=HR.out 1 (by omega)
  obtain⟨r2,z2⟩:=HR.out 2 (by omega)
  obtain⟨r3,z3⟩:=HR.out 3 (by omega)
  obtain⟨r4,z4⟩:=HR.out 4 (by omega)
  clear hst h5
  go_wp2
  refine bodyPost_ret (v:=.tuple #[.agg #[.int .i64 0,.int .i64 0,.int .i64 0,.int .i64 0,.int .i64 0],.bool false]) (by simp[results,Try.results121,go_sem, *]) rfl ⟨by rw[HST.out];rfl,?_⟩
  exact ((((HB.out.setCell (by show N≤N+1+1;omega) _).setCell (by show N≤N+1+1;omega) _).setCell (by show N≤N+1+1;omega) _).setCell (by show N≤N+1+1;omega) _).setCell (by show N≤N+1+1;omega) _
 ·have q2:decide (T<0)=false:=by simp;omega
  obtain⟨P,hP⟩:∃P,P=G.P (4*t+f):=⟨_,rfl⟩
  obtain⟨x,hx⟩:∃x,x=G.T (4*t+f):=⟨_,rfl⟩
  have hok:=HS.out.1
  have hk:4*t+f<4*G.n:=by omega
  have hnn:¬G.tet (4*t+f)<0:=by rw[←HT.out.2.1];omega
  obtain⟨f1,f2,f3⟩:=zc6 hok hk hnn
  have hin:=ok_inj hok hk hnn
  have hTx:T=(x:Int):=by rw[HT.out.2.1,f1,hx]
  have hpP:∀i,i<4→pp i=(P i:Int):=fun i hi=>by rw[HT.out.2.2,(f3 i hi).1,hP]
  have hQ4:Q4 P:=⟨fun i hi=>by rw[hP];exact (f3 i hi).2,fun i j hi hj hn=>by rw[hP];exact hin i j hi hj hn⟩
  have hst:stp G l (t,sa,sb,sc,sd)=some (x,P sa,P sb,P sd,P sc):=by
   unfold stp
   rw[←HT.out.1,if_neg (by show ¬G.tet (4*t+f)<0;exact hnn),hx,hP]
  have hs4:=HS.out.2
  have hq:=Q4.sel (a:=sa) (b:=sb) (c:=sc) (d:=sd) ⟨hs4.l,hs4.d⟩
  have hu:=stp_ok hok hs4 hst
  have hq2:=Q4.sel (a:=P sa) (b:=P sb) (c:=P sc) (d:=P sd) (by
   obtain⟨l1,l2,l3,l4⟩:=hu.l
   obtain⟨d1,d2,d3,d4,d5,d6⟩:=hu.d
   exact⟨⟨l1,l2,l4,l3⟩,d1,d3,d2,d5,d4,Ne.symm d6⟩)
  have hq3:Q4 (selN 0 1 3 2):=Q4.sel (by decide)
  have k1:∀W,Calls Try.prog 129 #[.agg #[.int .i64 (P 0:Int),.int .i64 (P 1:Int),.int .i64 (P 2:Int),.int .i64 (P 3:Int)],.agg #[.int .i64 (sa:Int),.int .i64 (sb:Int),.int .i64 (sc:Int),.int .i64 (sd:Int)]] W fun e w'=>e=.returned (.agg #[.int .i64 (P sa:Int),.int .i64 (P sb:Int),.int .i64 (P sc:Int),.int .i64 (P sd:Int)])∧Below W.heap.size W w':=fun W=>rcompose_walk P (selN sa sb sc sd) hQ4 hq W
  have k2:∀W,Calls Try.prog 129 #[.agg #[.int .i64 (P sa:Int),.int .i64 (P sb:Int),.int .i64 (P sc:Int),.int .i64 (P sd:Int)],.agg #[.int .i64 0,.int .i64 1,.int .i64 3,.int .i64 2]] W fun e w'=>e=.returned (.agg #[.int .i64 (P sa:Int),.int .i64 (P sb:Int),.int .i64 (P sd:Int),.int .i64 (P sc:Int)])∧Below W.heap.size W w':=fun W=>rcompose_walk (selN (P sa) (P sb) (P sc) (P sd)) (selN 0 1 3 2) hq2 hq3 W
  have K:=Hd2 k1 k2
  rw[hpP 0 (by omega)] at e1
  rw[hpP 1 (by omega)] at e2
  rw[hpP 2 (by omega)] at e3
  rw[hpP 3 (by omega)] at e4
  subst hTx
  have HST:=Lib.hid hst
  have d0:Wc.drew.cell? ⟨N+3,0,none⟩=some (.int .i64 (x:Int)):=e0
  have d1:Wc.drew.cell? ⟨N+3,1,none⟩=some (.int .i64 (P 0:Int)):=e1
  have d2:Wc.drew.cell? ⟨N+3,2,none⟩=some (.int .i64 (P 1:Int)):=e2
  have d3:Wc.drew.cell? ⟨N+3,3,none⟩=some (.int .i64 (P 2:Int)):=e3
  have d4:Wc.drew.cell? ⟨N+3,4,none⟩=some (.int .i64 (P 3:Int)):=e4
  have b1:Wc.drew.cell? ⟨N+1,1,none⟩=some (.int .i64 (sa:Int)):=h5.2.1
  have b2:Wc.drew.cell? ⟨N+1,2,none⟩=some (.int .i64 (sb:Int)):=h5.2.2.1
  have b3:Wc.drew.cell? ⟨N+1,3,none⟩=some (.int .i64 (sc:Int)):=h5.2.2.2.1
  have b4:Wc.drew.cell? ⟨N+1,4,none⟩=some (.int .i64 (sd:Int)):=h5.2.2.2.2
  have held:∀W,Kq (N+1+1) Wc.drew W→W.cell? ⟨N+3,0,none⟩=some (.int .i64 (x:Int))∧W.cell? ⟨N+3,1,none⟩=some (.int .i64 (P 0:Int))∧W.cell? ⟨N+3,2,none⟩=some (.int .i64 (P 1:Int))∧W.cell? ⟨N+3,3,none⟩=some (.int .i64 (P 2:Int))∧W.cell? ⟨N+3,4,none⟩=some (.int .i64 (P 3:Int)) ∧
    W.cell? ⟨N+1,1,none⟩=some (.int .i64 (sa:Int))∧W.cell? ⟨N+1,2,none⟩=some (.int .i64 (sb:Int))∧W.cell? ⟨N+1,3,none⟩=some (.int .i64 (sc:Int))∧W.cell? ⟨N+1,4,none⟩=some (.int .i64 (sd:Int)):=fun W h=>
   ⟨h.cell d0 (by omega),h.cell d1 (by omega),h.cell d2 (by omega),h.cell d3 (by omega),h.cell d4 (by omega),h.cell b1 (by omega),h.cell b2 (by omega),h.cell b3 (by omega),h.cell b4 (by omega)⟩
  have res:∀W,Below Wc.drew.heap.size Wc.drew W→(∀i,i<5→W.cell? ⟨N+1+1,i,none⟩=some (.int .i64 0)∧W.frozen? ⟨N+1+1,i,none⟩=false)∧Below N w W:=fun W h=>
   ⟨fun i hi=>⟨(h.cell (p:=⟨N+1+1,i,none⟩) (by show N+1+1<Wc.heap.size;omega)).trans (HR.out i hi).1,(h.frozen (p:=⟨N+1+1,i,none⟩) (by show N+1+1<Wc.heap.size;omega)).trans (HR.out i hi).2⟩,(za5 HB.out:Below N w Wc.drew).trans (h.mono (by show N≤Wc.heap.size;omega))⟩
  have HH:=Hd2 held res
  clear held res d0 d1 d2 d3 d4 b1 b2 b3 b4 e1 e2 e3 e4 h5 hst k1 k2 hq hq2 hq3 hQ4 hpP hu hs4 hP hx f1 f2 f3 hin hok hnn
  go_wp2
  go_region_held3 (fun w'=>w'.cell? ⟨N+3,0,none⟩=some (.int .i64 (x:Int))∧w'.cell? ⟨N+3,1,none⟩=some (.int .i64 (P 0:Int))∧w'.cell? ⟨N+3,2,none⟩=some (.int .i64 (P 1:Int))∧w'.cell? ⟨N+3,3,none⟩=some (.int .i64 (P 2:Int))∧w'.cell? ⟨N+3,4,none⟩=some (.int .i64 (P 3:Int)) ∧
    w'.cell? ⟨N+1,1,none⟩=some (.int .i64 (sa:Int))∧w'.cell? ⟨N+1,2,none⟩=some (.int .i64 (sb:Int))∧w'.cell? ⟨N+1,3,none⟩=some (.int .i64 (sc:Int))∧w'.cell? ⟨N+1,4,none⟩=some (.int .i64 (sd:Int)))
   (exact HH.out.1 _ (by with_reducible (repeat (first | exact Kq.refl _ _ | refine Kq.below ?_ (by assumption) | refine Kq.dr ?_ | refine Kq.sc ?_ _ _))))
   (first
    |(go_at_call 129;(with_reducible refine (K.out.1 _).mono ?_);rintro e w4 ⟨rfl,hb4⟩)
    |(go_at_call 129;(with_reducible refine (K.out.2 _).mono ?_);rintro e w5 ⟨rfl,hb5⟩;obtain⟨hrs,hbw⟩:=HH.out.2 w5 (by (repeat' (first | assumption | exact Below.refl _ _ | refine za7 ?_ (by assumption) | refine zb2 ?_ _ | refine za5 ?_ | refine zb1 ?_ (by simp<;>omega) _)));obtain⟨r0,z0⟩:=hrs 0 (by omega);obtain⟨r1,z1⟩:=hrs 1 (by omega);obtain⟨r2,z2⟩:=hrs 2 (by omega);obtain⟨r3,z3⟩:=hrs 3 (by omega);obtain⟨r4,z4⟩:=hrs 4 (by omega);have HBW:=Lib.hid hbw;clear hrs hbw))
  go_wp2
  refine bodyPost_ret (v:=.tuple #[.agg #[.int .i64 (x:Int),.int .i64 (P sa:Int),.int .i64 (P sb:Int),.int .i64 (P sd:Int),.int .i64 (P sc:Int)],.bool true]) (by simp[results,Try.results121,go_sem, *]) rfl ⟨by rw[HST.out];rfl,?_⟩
  exact ((((HBW.out.setCell (by show N≤N+1+1;omega) _).setCell (by show N≤N+1+1;omega) _).setCell (by show N≤N+1+1;omega) _).setCell (by show N≤N+1+1;omega) _).setCell (by show N≤N+1+1;omega) _
end
end Go.Proofs.Ytlckpgahijlmoaa
