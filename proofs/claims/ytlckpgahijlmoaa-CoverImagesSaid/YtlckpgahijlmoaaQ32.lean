/- group's walk: the closure. -/
import Derived.Test.YtlckpgahijlmoaaQ31
import Derived.Test.YtlckpgahijlmoaaQ21
import Derived.Test.YtlckpgahijlmoaaQ30
set_option maxRecDepth 100000
set_option maxHeartbeats 8000000
namespace Go.Proofs.Ytlckpgahijlmoaa
section
open Go.RowKit Go.Shelf
structure RL (G:Gl)(W0 W:World)(s:RS)(lv:Value)(k:Nat):Prop where
 own:W.ownsRow W0.heap.size 160 5 lv k (zg6 (pth G 2 s k))
 all:∀i,i<k→itr G 2 s i≠none
 ne:∀i,0<i→i<k→itr G 2 s i≠some s
 bel:Below W0.heap.size W0 W
theorem RL.bound {G:Gl}(hok:za9 G=true){W0 W:World}{s:RS}(hs:Rok G.n s){lv:Value}{k:Nat}(h:RL G W0 W s lv k):k≤256*G.n:=by
 obtain⟨k0,h0,h1,h2⟩:=itr_ends hok (.inl ⟨rfl,rfl⟩) hs
 rcases Nat.lt_or_ge k0 k with hk | hk
 ·exfalso
  rcases h2 with h2 | h2
  ·exact h.all k0 hk h2
  ·exact h.ne k0 h0 hk h2
 ·omega
theorem RL.push {G:Gl}{W0 W w9:World}{s z:RS}{k g cap g' cap':Nat}(h:RL G W0 W s (.slice (some ⟨g,0,none⟩) k cap) k)(hz:itr G 2 s k=some z)(hne:z≠s){o:Obj}
  (r1:w9.ownsRow W0.heap.size 160 5 (.slice (some ⟨g',0,none⟩) (k+1) cap') (k+1) (zg6 (pth G 2 s k)++(zb6 z).toList)) (r2:(W.alloc o).grownBy w9 (Value.slice (some ⟨g,0,none⟩) k cap).ownBlock):RL G W0 w9 s (.slice (some ⟨g',0,none⟩) (k+1) cap') (k+1):=by
 refine⟨by rw[pth_succ hz,rcells_snoc];exact r1,fun i hi e=>?_,fun i h1 h2 e=>?_,(h.bel.alloc h.bel.size o).grown r2 (by have:=h.bel.size;simp;omega) (fun j hj=>(h.own.lt j hj).1)⟩
 ·by_cases q:i=k
  ·subst q;rw[hz] at e;cases e
  ·exact h.all i (by omega) e
 ·by_cases q:i=k
  ·subst q;rw[hz] at e;injection e with e;exact hne e
  ·exact h.ne i h1 (by omega) e
theorem RL.kept {G:Gl}{W0 W W':World}{s:RS}{lv:Value}{k:Nat}(h:RL G W0 W s lv k)(hb:Below W.heap.size W W'):RL G W0 W' s lv k:=
 ⟨h.own.kept (za6 hb (Nat.le_refl _) none) (by cases lv.ownBlock<;>simp),h.all,h.ne,h.bel.trans (hb.mono h.bel.size)⟩
theorem rcells_at5:∀(l:List RS) (k i:Nat) (u:RS),l[k]?=some u→i<5→(zg6 l)[5*k+i]?=(zb6 u)[i]?
 | [],k,i,u,h,_=>by simp at h
 | x :: l,0,i,u,h,hi=>by
  simp only[List.getElem?_cons_zero,Option.some.injEq] at h
  subst h
  simp only[zg6,List.flatMap_cons]
  rw[List.getElem?_append_left (by simp[zb6];omega)]
  simp
 | x :: l,k+1,i,u,h,hi=>by
  simp only[List.getElem?_cons_succ] at h
  have ih:=rcells_at5 l k i u h hi
  simp only[zg6,List.flatMap_cons]
  rw[List.getElem?_append_right (by simp[zb6];omega)]
  rw[←ih]
  congr 1
  simp[zb6];omega
theorem own_ring {W:World}{base g cap k j:Nat}{l:List RS}{u:RS}(h:W.ownsRow base 160 5 (.slice (some ⟨g,0,none⟩) k cap) k (zg6 l))(hu:l[j]?=some u) :
  W.cell? ⟨g,j*5,none⟩=some (.int .i64 (u.1:Int))∧W.cell? ⟨g,j*5+1,none⟩=some (.int .i64 (u.2.1:Int))∧W.cell? ⟨g,j*5+2,none⟩=some (.int .i64 (u.2.2.1:Int))∧W.cell? ⟨g,j*5+3,none⟩=some (.int .i64 (u.2.2.2.1:Int))∧W.cell? ⟨g,j*5+4,none⟩=some (.int .i64 (u.2.2.2.2:Int)):=by
 have key:∀i v,i<5→(zb6 u)[i]?=some v→W.cell? ⟨g,j*5+i,none⟩=some v:=fun i v hi hv=>by
  have:=h.cells (g:=g) rfl (5*j+i) v ((rcells_at5 l j i u hu hi).trans hv)
  rw[Addr.add_mid,Nat.zero_add] at this
  rwa [Nat.mul_comm j 5]
 exact⟨key 0 _ (by omega) rfl,key 1 _ (by omega) rfl,key 2 _ (by omega) rfl,key 3 _ (by omega) rfl,key 4 _ (by omega) rfl⟩
theorem nxA_form (o:Option RS):∃(c0 c1 c2 c3 c4:Int) (ok:Bool),nxA o=.tuple #[.agg #[.int .i64 c0,.int .i64 c1,.int .i64 c2,.int .i64 c3,.int .i64 c4],.bool ok]∧(o=none→ok=false)∧∀u,o=some u→ok=true∧c0=u.1∧c1=u.2.1∧c2=u.2.2.1∧c3=u.2.2.2.1∧c4=u.2.2.2.2:=by
 cases o with
 | none=>exact⟨0,0,0,0,0,false,rfl,fun _=>rfl,fun u h=>by cases h⟩
 | some u=>exact⟨_,_,_,_,_,true,rfl,(fun h=>by cases h),(fun x h=>by cases h;exact⟨rfl,rfl,rfl,rfl,rfl,rfl⟩)⟩
structure L2 (G:Gl)(W wc:World)(A B:Nat)(s:RS)(e0 e1 e2 e3 e4:Int)(ok:Bool)(i:Nat)(ua:RS):Prop where
 at_:itr G 3 s i=some ua
 no:stp G 3 ua=none→ok=false
 so:∀u,stp G 3 ua=some u→ok=true∧e0=u.1∧e1=u.2.1∧e2=u.2.2.1∧e3=u.2.2.2.1∧e4=u.2.2.2.2
 bel:Below A wc W
 c:C5 W A ua
 f:∀o,W.frozen? ⟨A,o,none⟩=false
 x:W.cell? ⟨B,0,none⟩=some (.int .i64 e0)∧W.cell? ⟨B,1,none⟩=some (.int .i64 e1)∧W.cell? ⟨B,2,none⟩=some (.int .i64 e2)∧W.cell? ⟨B,3,none⟩=some (.int .i64 e3)∧W.cell? ⟨B,4,none⟩=some (.int .i64 e4)
 xf:∀o,W.frozen? ⟨B,o,none⟩=false
 lt:A<B
structure L3 (G:Gl)(W wc:World)(A B:Nat)(ua:RS)(g0 g1 g2 g3 g4:Int)(ok:Bool)(j:Nat)(lv:Value):Prop where
 own:∃xs,W.ownsRow (A+1) 160 5 lv (j+1) xs
 bel:Below A wc W
 so:ok=true→∃z,itr G 2 ua (j+1)=some z∧g0=(z.1:Int)∧g1=(z.2.1:Int)∧g2=(z.2.2.1:Int)∧g3=(z.2.2.2.1:Int)∧g4=(z.2.2.2.2:Int)
 x:W.cell? ⟨B,0,none⟩=some (.int .i64 g0)∧W.cell? ⟨B,1,none⟩=some (.int .i64 g1)∧W.cell? ⟨B,2,none⟩=some (.int .i64 g2)∧W.cell? ⟨B,3,none⟩=some (.int .i64 g3)∧W.cell? ⟨B,4,none⟩=some (.int .i64 g4)
 xf:∀o,W.frozen? ⟨B,o,none⟩=false
 ne:lv.ownBlock≠some B
 lt:A<B
theorem rring_walk {G:Gl}(hok:za9 G=true){s:RS}(hs:Rok G.n s)(v:Value)(w:World)(hG:GlAt w.heap.size w v G) :
  Calls Try.prog 93 #[.agg #[v],.int .i64 (s.1:Int),.agg #[.int .i64 (s.2.1:Int),.int .i64 (s.2.2.1:Int),.int .i64 (s.2.2.2.1:Int),.int .i64 (s.2.2.2.2:Int)]] w (RingAns G s w):=by
 have hn:=(show G.n≤1000 by simp only[za9,Bool.and_eq_true,decide_eq_true_eq] at hok;exact hok.1)
 have e7:zd6 G=0:=by simp[zd6,hok]
 have hQ:=Q4.sel (a:=s.2.1) (b:=s.2.2.1) (c:=s.2.2.2.1) (d:=s.2.2.2.2) ⟨hs.l,hs.d⟩
 have hV:∀W,Calls Try.prog 63 #[.agg #[.int .i64 (s.2.1:Int),.int .i64 (s.2.2.1:Int),.int .i64 (s.2.2.2.1:Int),.int .i64 (s.2.2.2.2:Int)]] W fun e w'=>e=.returned (.bool true)∧Below W.heap.size W w':=fun W=>by
  have:=zf0 (fun i=>(selN s.2.1 s.2.2.1 s.2.2.2.1 s.2.2.2.2 i:Int)) W
  rw[hQ.valid] at this
  exact this
 have hC:=fun W (hb:Below w.heap.size w W)=>checkRI_walk G W v ((hG.below hb).mono hb.size) (by omega)
 rw[e7] at hC
 have hN1:=fun W (hb:Below w.heap.size w W) (u:RS) (hu:Rok G.n u) (l:Nat) (hl:l<4)=>rnext_walk hok hu l hl v W ((hG.below hb).mono hb.size)
 have HV:=Hd3 hV hC hN1
 have HS:=Hd3 hok hs hG
 obtain⟨a,cap,rfl⟩:∃a cap,v=.slice a G.n cap:=by obtain⟨a,_,_,cap,e,_⟩:=hG;exact⟨a,cap,e⟩
 have ht:=hs.t
 clear hV hC hN1 hok hs hG e7 hQ
 obtain⟨t,sa,sb,sc,sd⟩:=s
 simp only at ht
 have t0:0≤(t:Int):=by omega
 have tn:(t:Int)<(G.n:Int):=by omega
 have q1:decide ((t:Int)<0)=false:=by simp
 have q2:decide (G.n≤t)=false:=by simp;omega
 obtain⟨N,hN⟩:∃N,N=w.heap.size:=⟨_,rfl⟩
 go_enter Try.func93,Try.ntmps93
 go_wp2_with fail
 refine zb4 fun W0 hW=>?_
 rw[←hN]
 have h0:Below N w W0∧W0.cell? ⟨N,0,none⟩=some (.slice a G.n cap)∧W0.cell? ⟨N+1,0,none⟩=some (.int .i64 (sa:Int))∧W0.cell? ⟨N+1,1,none⟩=some (.int .i64 (sb:Int))∧W0.cell? ⟨N+1,2,none⟩=some (.int .i64 (sc:Int))∧W0.cell? ⟨N+1,3,none⟩=some (.int .i64 (sd:Int))∧W0.heap.size=N+2:=by
  rw[hW,hN];exact⟨by (repeat' (first | assumption | exact Below.refl _ _ | refine za7 ?_ (by assumption) | refine zb2 ?_ _ | refine za5 ?_ | refine zb1 ?_ (by simp<;>omega) _)),by simp[go_sem],by simp[go_sem],by simp[go_sem],by simp[go_sem],by simp[go_sem],by simp⟩
 obtain⟨hb,c0,p0,p1,p2,p3,hz⟩:=h0
 have HN:=Lib.hid hN
 clear hN
 refine (HV.out.2.1 W0 (HN.out▸hb)).mono ?_
 rintro e W1 ⟨rfl,hb1⟩
 have hg1:=za6 hb1 (Nat.le_refl _) none
 have c0':=hg1.cell c0 (by simp)
 have p0':=hg1.cell p0 (by simp)
 have p1':=hg1.cell p1 (by simp)
 have p2':=hg1.cell p2 (by simp)
 have p3':=hg1.cell p3 (by simp)
 have hbw:=hb.trans (hb1.mono (by omega))
 have hz1:N+2≤W1.heap.size:=by have:=hb1.size;omega
 clear hW hb hb1 c0 p0 p1 p2 p3 hz hg1
 go_wp2_with fail
 refine (HV.out.1 W1).mono ?_
 rintro e W2 ⟨rfl,hb2⟩
 have hg2:=za6 hb2 (Nat.le_refl _) none
 have c0:=hg2.cell c0' (by simp)
 have p0:=hg2.cell p0' (by simp)
 have p1:=hg2.cell p1' (by simp)
 have p2:=hg2.cell p2' (by simp)
 have p3:=hg2.cell p3' (by simp)
 have hbw2:=hbw.trans (hb2.mono (by omega))
 have hz2:N+2≤W2.heap.size:=by have:=hb2.size;omega
 have H2:=Hd2 hbw2 c0
 clear c0' p0' p1' p2' p3' hbw hb2 hz1 hg2 hbw2
 go_wp2
 obtain⟨E,hE⟩:∃E,E=W2.heap.size:=⟨_,rfl⟩
 rw[←hE]
 obtain⟨W3,hW3⟩:∃W3,W3=W2.alloc (Obj.cells #[.int .i64 (t:Int),.int .i64 (sa:Int),.int .i64 (sb:Int),.int .i64 (sc:Int),.int .i64 (sd:Int)] 160):=⟨_,rfl⟩
 rw[←hW3]
 refine zb3 fun W4 hW4=>?_
 have h4:RL G W3 W4 (t,sa,sb,sc,sd) (.slice (some ⟨E+1,0,none⟩) 1 1) 1∧Below N w W3∧W3.cell? ⟨N,0,none⟩=some (.slice a G.n cap)∧C5 W3 E (t,sa,sb,sc,sd)∧W3.heap.size=E+1:=by
  have hal:=World.grownBy_alloc W2 (Obj.cells #[.int .i64 (t:Int),.int .i64 (sa:Int),.int .i64 (sb:Int),.int .i64 (sc:Int),.int .i64 (sd:Int)] 160) none
  rw[←hW3] at hal
  have hz3:W3.heap.size=E+1:=by rw[hW3,hE];simp
  have hown:=World.ownsRow_lit (base:=W3.heap.size) (e:=160) (size:=5) W3 #[.int .i64 (t:Int),.int .i64 (sa:Int),.int .i64 (sb:Int),.int .i64 (sc:Int),.int .i64 (sd:Int)] 1 (Nat.le_refl _) (by decide) rfl
  rw[←hW4,hz3] at hown
  refine⟨⟨by rw[hz3];exact hown,fun i hi=>(by (obtain rfl:i=0:=by omega);simp[itr]),fun i h1 h2=>by omega,by rw[hW4];(repeat' (first | assumption | exact Below.refl _ _ | refine za7 ?_ (by assumption) | refine zb2 ?_ _ | refine za5 ?_ | refine zb1 ?_ (by simp<;>omega) _))⟩,H2.out.1.grown hal (by omega) (fun k e=>by cases e),hal.cell H2.out.2 (by simp),?_,hz3⟩
  rw[hW3,hE];exact C5.new W2 (t,sa,sb,sc,sd) 160
 have H4:=Lib.hid h4
 obtain⟨-,-,-,-,hz3⟩:=h4
 have hNE:N+2≤E:=by omega
 clear hW4 hW3 hE H2 c0 p0 p1 p2 p3 hz2
 obtain⟨i0,hi0,hz0',hz1',hz2'⟩:=info_parts info160
 go_loopw [11] (fun lv wr=>∃k,k≤256*G.n∧RL G W3 wr (t,sa,sb,sc,sd) lv (k+1)) (fun lv _=>256*G.n+1-(match lv with | .slice _ n _=>n | _=>0))
 case atStart=>exact⟨0,by omega,H4.out.1⟩
 case round=>
  obtain⟨k,hk,hR⟩:=hrel
  obtain⟨la,lc,rfl⟩:=za8 hR.own
  obtain⟨g,gc,hge,-⟩:=hR.own.form (by omega)
  obtain⟨rfl,-,rfl⟩:la=some ⟨g,0,none⟩∧k+1=k+1∧lc=gc:=by simpa using hge
  obtain⟨m,hm⟩:∃m,m=k+1:=⟨_,rfl⟩
  rw[←hm] at hR ⊢
  have HM:=Lib.hid hm
  obtain⟨u,hu⟩:=Option.ne_none_iff_exists'.1 (hR.all k (by omega))
  have hpg:=(pth_get hR.all k (by omega)).trans hu
  have hul:=zf7 HS.out.1 HS.out.2.1 hu
  have cells:=own_ring hR.own hpg
  have qk:IntKind.i64.wrap ((m:Int)-1)=(k:Int):=by rw[show (m:Int)-1=(k:Int) by omega];exact IntWalk.i64_in _ (by omega)
  have hbw:=H4.out.2.1.trans (hR.bel.mono (by omega))
  have hnx:=HV.out.2.2 wr (HN.out▸hbw) u hul 2 (by omega)
  obtain⟨c0,c1,c2,c3,c4,ok,hnf,hno,hso⟩:=nxA_form (stp G 2 u)
  rw[hnf] at hnx
  have hNl:N<W3.heap.size:=by omega
  have y0:=(hR.bel.cell (p:=⟨N,0,none⟩) hNl).trans H4.out.2.2.1
  have held:∀W,Below wr.heap.size wr W→W.cell? ⟨N,0,none⟩=some (.slice a G.n cap)∧W.cell? ⟨g,k*5,none⟩=some (.int .i64 (u.1:Int))∧W.cell? ⟨g,k*5+1,none⟩=some (.int .i64 (u.2.1:Int))∧W.cell? ⟨g,k*5+2,none⟩=some (.int .i64 (u.2.2.1:Int))∧W.cell? ⟨g,k*5+3,none⟩=some (.int .i64 (u.2.2.2.1:Int))∧W.cell? ⟨g,k*5+4,none⟩=some (.int .i64 (u.2.2.2.2:Int)):=fun W h=>by
   have hg:=za6 h (Nat.le_refl _) none
   exact⟨hg.cell y0 (by simp),hg.cell cells.1 (by simp),hg.cell cells.2.1 (by simp),hg.cell cells.2.2.1 (by simp),hg.cell cells.2.2.2.1 (by simp),hg.cell cells.2.2.2.2 (by simp)⟩
  have call:∀W,Below wr.heap.size wr W→Calls Try.prog 121 #[.agg #[.slice a G.n cap],.agg #[.int .i64 (u.1:Int),.int .i64 (u.2.1:Int),.int .i64 (u.2.2.1:Int),.int .i64 (u.2.2.2.1:Int),.int .i64 (u.2.2.2.2:Int)],.int .i64 2] W fun e w'=>e=.returned (.tuple #[.agg #[.int .i64 c0,.int .i64 c1,.int .i64 c2,.int .i64 c3,.int .i64 c4],.bool ok])∧Below W.heap.size W w':=fun W h=>by
   have hb2:Below N w W:=hbw.trans (h.mono (by have:=hR.bel.size;omega))
   have:=HV.out.2.2 W (HN.out▸hb2) u hul 2 (by omega)
   rw[hnf] at this
   exact this
  have HH:=Hd2 held call
  have HK:=Hd4 hR hu hno hso
  have k0:0≤(k:Int):=by omega
  have kk:(k:Int)<(m:Int):=by omega
  have km:k<m:=by omega
  clear held call hR hu hno hso hnf hnx hbw cells y0 hpg hge hm
  go_wp2_with fail
  go_cut [12,13] from 43 to 53 (fun p x wc=>∃b,p=.pointer (some ⟨b,0,none⟩)∧x=.bool ok∧Below wr.heap.size wr wc∧wr.heap.size≤b∧wc.cell? ⟨b,0,none⟩=some (.int .i64 c0)∧wc.cell? ⟨b,1,none⟩=some (.int .i64 c1)∧wc.cell? ⟨b,2,none⟩=some (.int .i64 c2)∧wc.cell? ⟨b,3,none⟩=some (.int .i64 c3)∧wc.cell? ⟨b,4,none⟩=some (.int .i64 c4))
  case first=>
   go_region_held3 (fun w'=>w'.cell? ⟨N,0,none⟩=some (.slice a G.n cap)∧w'.cell? ⟨g,k*5,none⟩=some (.int .i64 (u.1:Int))∧w'.cell? ⟨g,k*5+1,none⟩=some (.int .i64 (u.2.1:Int))∧w'.cell? ⟨g,k*5+2,none⟩=some (.int .i64 (u.2.2.1:Int))∧w'.cell? ⟨g,k*5+3,none⟩=some (.int .i64 (u.2.2.2.1:Int))∧w'.cell? ⟨g,k*5+4,none⟩=some (.int .i64 (u.2.2.2.2:Int)))
    (exact HH.out.1 _ (by (repeat' (first | assumption | exact Below.refl _ _ | refine za7 ?_ (by assumption) | refine zb2 ?_ _ | refine za5 ?_ | refine zb1 ?_ (by simp<;>omega) _))))
    (first
     |(go_at_call 121;(with_reducible refine (HH.out.2 _ (by (repeat' (first | assumption | exact Below.refl _ _ | refine za7 ?_ (by assumption) | refine zb2 ?_ _ | refine za5 ?_ | refine zb1 ?_ (by simp<;>omega) _)))).mono ?_);rintro e w5 ⟨rfl,hb5⟩;obtain⟨hc5,hf5⟩:=bcell hb5;have hs5:=hb5.size;(try simp only[World.size_alloc,World.size_drew] at hs5);(try (have z05:wr.heap.size<w5.heap.size:=by omega))))
   all_goals go_wp2_with fail
   all_goals go_meet
   ·exact⟨_,rfl,rfl,by (repeat' (first | assumption | exact Below.refl _ _ | refine za7 ?_ (by assumption) | refine zb2 ?_ _ | refine za5 ?_ | refine zb1 ?_ (by simp<;>omega) _)),hs5,by simp[go_sem],by simp[go_sem],by simp[go_sem],by simp[go_sem],by simp[go_sem]⟩
   ·have x0:w5.cell? ⟨wr.heap.size,0,none⟩=some (.int .i64 0):=by rw[hc5 _ _ (by simp)];simp[go_sem]
    have x1:w5.cell? ⟨wr.heap.size,1,none⟩=some (.int .i64 0):=by rw[hc5 _ _ (by simp)];simp[go_sem]
    have x2:w5.cell? ⟨wr.heap.size,2,none⟩=some (.int .i64 0):=by rw[hc5 _ _ (by simp)];simp[go_sem]
    have x3:w5.cell? ⟨wr.heap.size,3,none⟩=some (.int .i64 0):=by rw[hc5 _ _ (by simp)];simp[go_sem]
    have x4:w5.cell? ⟨wr.heap.size,4,none⟩=some (.int .i64 0):=by rw[hc5 _ _ (by simp)];simp[go_sem]
    exact⟨_,rfl,rfl,by (repeat' (first | assumption | exact Below.refl _ _ | refine za7 ?_ (by assumption) | refine zb2 ?_ _ | refine za5 ?_ | refine zb1 ?_ (by simp<;>omega) _)),Nat.le_refl _,by simp[go_sem,x0],by simp[go_sem,x1],by simp[go_sem,x2],by simp[go_sem,x3],by simp[go_sem,x4]⟩
  case rest=>
   obtain⟨b,rfl,rfl,hbc,hbl,x0,x1,x2,x3,x4⟩:=hcut
   have hgc:=za6 hbc (Nat.le_refl _) none
   have HC:=Hd2 hbc hbl
   obtain⟨hR,hu,hno,hso⟩:=HK.out
   have hbl2:=hR.bel.trans (hbc.mono hR.bel.size)
   have hE5:C5 wc E (t,sa,sb,sc,sd):=(za6 (hbl2) (Nat.le_refl _) none |> fun h=>(H4.out.2.2.2.1).kept h (by simp))
   obtain⟨f0,f1,f2,f3,f4⟩:=hE5
   cases hst:stp G 2 u with
   | none=>
    obtain rfl:=hno hst
    simp only at f0 f1 f2 f3 f4
    have hend:itr G 2 (t,sa,sb,sc,sd) (k+1)=none:=by rw[itr,hu];exact hst
    obtain⟨J,hJ,hJ3⟩:=itr_other HS.out.1 (.inl ⟨rfl,rfl⟩) HS.out.2.1 hend
    have hbN:Below N w wc:=H4.out.2.1.trans (hbl2.mono (by omega))
    have y0:=(hbl2.cell (p:=⟨N,0,none⟩) hNl).trans H4.out.2.2.1
    have hNc:N<wc.heap.size:=za0 y0
    have y0a:=za4 y0
    have HE:=Hd4 hend hJ3 hbN y0
    clear hno hso hst hend hJ3 hbN hbl2 hgc hbc hbl hR hu x0 x1 x2 x3 x4
    go_wp2_with fail
    obtain⟨A,hA⟩:∃A,A=wc.heap.size:=⟨_,rfl⟩
    rw[←hA]
    refine zb4 fun W5 hW5=>?_
    have h5:Below A wc W5∧C5 W5 A (t,sa,sb,sc,sd)∧(∀o,W5.frozen? ⟨A,o,none⟩=false)∧W5.heap.size=A+1:=by
     rw[hW5,hA]
     exact⟨(Below.refl _ _).alloc (Nat.le_refl _) _,C5.new wc (t,sa,sb,sc,sd) 160,fun o=>World.frozen?_alloc_at _ _ _ _ rfl,by simp⟩
    obtain⟨hb5,hc5,hf5,hz5⟩:=h5
    have hAN:N<A:=by omega
    have HNX:=Lib.hid (fun W (hb:Below A wc W) (x:RS) (hx:Rok G.n x) (l:Nat) (hl:l<4)=>HV.out.2.2 W (HN.out▸HE.out.2.2.1.trans (hb.mono (by omega))) x hx l hl)
    have HY0:=Lib.hid (fun W (hb:Below A wc W)=>(hb.cell (p:=⟨N,0,none⟩) (by show N<A;exact hAN)).trans HE.out.2.2.2)
    obtain⟨e0,e1,e2,e3,e4,ok2,hnf,hno,hso⟩:=nxA_form (stp G 3 (t,sa,sb,sc,sd))
    have hcall:=HNX.out W5 hb5 (t,sa,sb,sc,sd) HS.out.2.1 3 (by omega)
    rw[hnf] at hcall
    have HNO:=Hd2 hno hso
    clear y0 y0a hno hso hnf hW5 hA
    refine hcall.mono ?_
    rintro e W6 ⟨rfl,hb6⟩
    have hb6':Below A wc W6:=hb5.trans (hb6.mono (by omega))
    have hg6:=za6 hb6 (Nat.le_refl _) none
    have hc6:=hc5.kept hg6 (by simp)
    have hf6:∀o,W6.frozen? ⟨A,o,none⟩=false:=fun o=>(hg6.frozen_far ⟨A,o,none⟩ (by show A<_;omega) (by simp)).trans (hf5 o)
    have hz6:=hb6.size
    have H6:=Hd3 hb6' hc6 hf6
    clear hcall hb6 hg6 hb5 hc5 hf5 hb6' hc6 hf6
    go_wp2
    refine zb3 fun W7 hW7=>?_
    obtain⟨B,hB⟩:∃B,B=W6.heap.size:=⟨_,rfl⟩
    rw[←hB]
    have h7:L2 G W7 wc A B (t,sa,sb,sc,sd) e0 e1 e2 e3 e4 ok2 0 (t,sa,sb,sc,sd):=by
     have hal:=World.grownBy_alloc W6 (.cells #[.int .i64 e0,.int .i64 e1,.int .i64 e2,.int .i64 e3,.int .i64 e4] 160) none
     obtain⟨q1,q2,q3⟩:=H6.out
     rw[←hW7] at hal
     refine⟨rfl,HNO.out.1,HNO.out.2,q1.grown hal (by omega) (fun k e=>by cases e),q2.kept hal (by simp),fun o=>(hal.frozen_far ⟨A,o,none⟩ (by show A<_;omega) (by simp)).trans (q3 o),⟨by rw[hW7,hB];simp[go_sem],by rw[hW7,hB];simp[go_sem],by rw[hW7,hB];simp[go_sem],by rw[hW7,hB];simp[go_sem],by rw[hW7,hB];simp[go_sem]⟩,fun o=>by rw[hW7,hB];exact World.frozen?_alloc_at _ _ _ _ rfl,by omega⟩
    have H7:=Lib.hid h7
    clear h7 hW7 hB H6 HNO hz6 hz5
    go_loopg [15,16] J (fun gk p x wz=>∃(i:Nat) (ua:RS) (B:Nat) (e0 e1 e2 e3 e4:Int) (ok2:Bool),gk+i=J∧p=.pointer (some ⟨B,0,none⟩)∧x=.bool ok2∧L2 G wz wc A B (t,sa,sb,sc,sd) e0 e1 e2 e3 e4 ok2 i ua)
    case atStart=>exact⟨0,_,_,_,_,_,_,_,_,by omega,rfl,rfl,H7.out⟩
    case round=>
     clear H7
     obtain⟨i,ua,B,e0,e1,e2,e3,e4,ok2,hJi,rfl,rfl,hL⟩:=hrel
     obtain⟨a0,a1,a2,a3,a4⟩:=hL.c
     obtain⟨b0,b1,b2,b3,b4⟩:=hL.x
     have af0:=hL.f 0
     have af1:=hL.f 1
     have af2:=hL.f 2
     have af3:=hL.f 3
     have af4:=hL.f 4
     have yN:=HY0.out wr hL.bel
     have hAB:A≠B:=by have:=hL.lt;omega
     have hNA:N≠A:=by omega
     have hua:=zf7 HS.out.1 HS.out.2.1 hL.at_
     have HL:=Lib.hid hL
     clear hL
     cases ok2 with
     | true=>
      obtain⟨z,hz⟩:∃z,stp G 3 ua=some z:=by
       cases hst3:stp G 3 ua with
       | none=>exact absurd (HL.out.no hst3) (by simp)
       | some z=>exact⟨z,rfl⟩
      obtain⟨-,rfl,rfl,rfl,rfl,rfl⟩:=HL.out.so z hz
      have hit:itr G 3 (t,sa,sb,sc,sd) (i+1)=some z:=by rw[itr,HL.out.at_];exact hz
      have hiJ:i+1<J:=by
       rcases Nat.lt_or_ge (i+1) J with h | h
       ·exact h
       ·rw[zg9 HE.out.2.1 h] at hit;cases hit
      have hzR:=zf7 HS.out.1 HS.out.2.1 hit
      have HZ:=Hd2 hit hzR
      have hAl:=za0 a0
      have hBl:=za0 b0
      simp only at hAl hBl
      clear hz hit hzR
      iterate 25 go_step
      refine zb3 fun V hV=>?_
      have hv:Below A wc V∧C5 V A z∧(∀o,V.frozen? ⟨A,o,none⟩=false)∧V.heap.size=wr.heap.size∧C5 V B z:=by
       have hd:=five_ds HL.out.c z
       have hgg:=five_grown (zd2 wr (some A)) (.int .i64 (z.1:Int)) (.int .i64 (z.2.1:Int)) (.int .i64 (z.2.2.1:Int)) (.int .i64 (z.2.2.2.1:Int)) (.int .i64 (z.2.2.2.2:Int))
       have hcs:=HL.out.bel.size
       rw[←hV] at hd hgg
       refine⟨HL.out.bel.grown hgg (by omega) (fun k e=>by cases e;exact Nat.le_refl _),hd,fun o=>by rw[hV];simp only[World.frozen?_setCell];exact HL.out.f o,by rw[hV];simp,?_⟩
       have hx:C5 wr B z:=HL.out.x
       exact hx.kept hgg (by simp;omega)
      obtain⟨v1,v2,v3,v4,v5⟩:=hv
      obtain⟨b0,b1,b2,b3,b4⟩:=v5
      have yN:=HY0.out V v1
      obtain⟨a0,a1,a2,a3,a4⟩:=v2
      have yNa:=za4 yN
      have a0a:=za4 a0
      have a1a:=za4 a1
      have a2a:=za4 a2
      have a3a:=za4 a3
      have a4a:=za4 a4
      have HVV:=Hd3 v1 v3 v4
      clear hV v1 v3 v4
      go_wp2_with fail
      obtain⟨B',hB'⟩:∃B',B'=V.heap.size:=⟨_,rfl⟩
      rw[←hB']
      refine zb4 fun W8 hW8=>?_
      have h8:Below A wc W8∧C5 W8 A z∧(∀o,W8.frozen? ⟨A,o,none⟩=false)∧C5 W8 B' z∧(∀o,W8.frozen? ⟨B',o,none⟩=false)∧W8.heap.size=B'+1:=by
       obtain⟨v1,v3,v4⟩:=HVV.out
       have hal:=World.grownBy_alloc V (.cells #[.int .i64 (z.1:Int),.int .i64 (z.2.1:Int),.int .i64 (z.2.2.1:Int),.int .i64 (z.2.2.2.1:Int),.int .i64 (z.2.2.2.2:Int)] 160) none
       have hnew:=C5.new V z 160
       rw[←hW8] at hal
       rw[←hB'] at hnew
       have hcs:=v1.size
       have hcc:C5 V A z:=⟨a0,a1,a2,a3,a4⟩
       refine⟨v1.grown hal (by omega) (fun k e=>by cases e),hcc.kept hal (by simp),fun o=>(hal.frozen_far ⟨A,o,none⟩ (by show A<V.heap.size;omega) (by simp)).trans (v3 o),by rw[hW8];exact hnew,fun o=>by rw[hW8,hB'];exact World.frozen?_alloc_at _ _ _ _ rfl,by rw[hW8];simp[hB']⟩
      obtain⟨q1,q2,q3,q4,q5,q6⟩:=h8
      obtain⟨g0,g1,g2,g3,g4,ok3,hnf,hno,hso⟩:=nxA_form (stp G 3 z)
      have hcall:=HNX.out W8 q1 z HZ.out.2 3 (by omega)
      rw[hnf] at hcall
      have HNO:=Hd2 hno hso
      have hA':A<B':=by have:=HVV.out.2.2;omega
      clear hno hso hnf hW8 hB' a0 a1 a2 a3 a4 b0 b1 b2 b3 b4 af0 af1 af2 af3 af4 yN hAl hBl hAB yNa a0a a1a a2a a3a a4a
      refine hcall.mono ?_
      rintro e W9 ⟨rfl,hb9⟩
      have hg9:=za6 hb9 (Nat.le_refl _) none
      have r1:Below A wc W9:=q1.trans (hb9.mono (by omega))
      have r2:=q2.kept hg9 (by simp)
      have r3:∀o,W9.frozen? ⟨A,o,none⟩=false:=fun o=>(hg9.frozen_far ⟨A,o,none⟩ (by show A<_;omega) (by simp)).trans (q3 o)
      have r4:=q4.kept hg9 (by simp)
      have r5:∀o,W9.frozen? ⟨B',o,none⟩=false:=fun o=>(hg9.frozen_far ⟨B',o,none⟩ (by show B'<_;omega) (by simp)).trans (q5 o)
      obtain⟨x0,x1,x2,x3,x4⟩:=r4
      have z0:=r5 0
      have z1:=r5 1
      have z2:=r5 2
      have z3:=r5 3
      have z4:=r5 4
      have H9:=Hd4 r1 r2 r3 r5
      clear hcall hb9 hg9 q1 q2 q3 q4 q5 q6 r1 r2 r3 r5
      go_wp2
      go_roundg (gk-1)
      case measure=>omega
      case rel=>
       obtain⟨r1,r2,r3,r5⟩:=H9.out
       have hgg:=five_grown (zd2 W9 (some B')) (.int .i64 g0) (.int .i64 g1) (.int .i64 g2) (.int .i64 g3) (.int .i64 g4)
       have hWs:=r1.size
       refine⟨i+1,z,B',g0,g1,g2,g3,g4,ok3,by omega,rfl,rfl,HZ.out.1,HNO.out.1,HNO.out.2,r1.grown hgg (by have:=za0 r2.1;simp only at this;omega) (fun k e=>by cases e;omega),r2.kept hgg (by simp;omega),fun o=>by simp only[World.frozen?_setCell];exact r3 o,⟨?_,?_,?_,?_,?_⟩,fun o=>by simp only[World.frozen?_setCell];exact r5 o,hA'⟩<;>simp[go_sem,x0,x1,x2,x3,x4]
     | false=>
      have hst3:stp G 3 ua=none:=by
       cases hst3:stp G 3 ua with
       | none=>rfl
       | some z=>exact absurd (HL.out.so z hst3).1 (by simp)
      have hend2:itr G 2 ua (i+(k+1))=none:=by
       rw[itr_add,itr_back HS.out.1 (.inr ⟨rfl,rfl⟩) HS.out.2.1 HL.out.at_];exact HE.out.1
      obtain⟨J2,hJ2⟩:∃J2,J2=i+(k+1):=⟨_,rfl⟩
      rw[←hJ2] at hend2
      have hJ2b:J2≤600000:=by omega
      have HE2:=Lib.hid hend2
      have yNa:=za4 yN
      have a0a:=za4 a0
      have a1a:=za4 a1
      have a2a:=za4 a2
      have a3a:=za4 a3
      have a4a:=za4 a4
      clear hst3 hend2 hJ2 b0 b1 b2 b3 b4 af0 af1 af2 af3 af4
      go_wp2_with fail
      obtain⟨L,hL⟩:∃L,L=wr.heap.size:=⟨_,rfl⟩
      rw[←hL]
      refine zb4 fun W8 hW8=>?_
      have hAL:A<L:=by have:=za0 a0;simp only at this;omega
      have h8:Below A wc W8∧W8.ownsRow (A+1) 160 5 (.slice (some ⟨L,0,none⟩) 1 1) 1 (zb6 ua).toList∧W8.heap.size=L+1:=by
       have hal:=World.grownBy_alloc wr (.cells (zb6 ua) 160) none
       have hown:=World.ownsRow_lit (base:=A+1) (e:=160) (size:=5) wr (zb6 ua) 1 (by omega) (by decide) rfl
       rw[←hL] at hown
       have e8:W8=wr.alloc (.cells (zb6 ua) 160):=hW8
       rw[←e8] at hal hown
       exact⟨HL.out.bel.grown hal (by have:=HL.out.bel.size;omega) (fun k e=>by cases e),hown,by rw[e8];simp[hL]⟩
      obtain⟨q1,q2,q3⟩:=h8
      obtain⟨g0,g1,g2,g3,g4,ok3,hnf,hno,hso⟩:=nxA_form (stp G 2 ua)
      have hcall:=HNX.out W8 q1 ua hua 2 (by omega)
      rw[hnf] at hcall
      have HSO:=Lib.hid (show ok3=true→∃z,itr G 2 ua 1=some z∧g0=(z.1:Int)∧g1=(z.2.1:Int)∧g2=(z.2.2.1:Int)∧g3=(z.2.2.2.1:Int)∧g4=(z.2.2.2.2:Int) from fun h=>by
       cases hz:stp G 2 ua with
       | none=>rw[hno hz] at h;cases h
       | some z=>exact⟨z,by rw[itr];exact hz,(hso z hz).2⟩)
      clear hno hso hnf hW8 hL a0 a1 a2 a3 a4 yN hAB yNa a0a a1a a2a a3a a4a
      refine hcall.mono ?_
      rintro e W9 ⟨rfl,hb9⟩
      have hg9:=za6 hb9 (Nat.le_refl _) none
      have r1:Below A wc W9:=q1.trans (hb9.mono (by omega))
      have r2:=q2.kept hg9 (Or.inr (by simp[Value.ownBlock]))
      have hz9:=hb9.size
      have H9:=Hd2 r1 r2
      clear hcall hb9 hg9 q1 q2 r1 r2
      go_wp2
      refine zb3 fun W10 hW10=>?_
      obtain⟨B3,hB3⟩:∃B3,B3=W9.heap.size:=⟨_,rfl⟩
      rw[←hB3]
      have h10:L3 G W10 wc A B3 ua g0 g1 g2 g3 g4 ok3 0 (.slice (some ⟨L,0,none⟩) 1 1):=by
       have hal:=World.grownBy_alloc W9 (.cells #[.int .i64 g0,.int .i64 g1,.int .i64 g2,.int .i64 g3,.int .i64 g4] 160) none
       rw[←hW10] at hal
       obtain⟨r1,r2⟩:=H9.out
       exact⟨⟨_,r2.kept hal (Or.inr (by simp[Value.ownBlock]))⟩,r1.grown hal (by omega) (fun k e=>by cases e),HSO.out,⟨by rw[hW10,hB3];simp[go_sem],by rw[hW10,hB3];simp[go_sem],by rw[hW10,hB3];simp[go_sem],by rw[hW10,hB3];simp[go_sem],by rw[hW10,hB3];simp[go_sem]⟩,fun o=>by rw[hW10,hB3];exact World.frozen?_alloc_at _ _ _ _ rfl,by simp[Value.ownBlock];omega,by omega⟩
      have H10:=Lib.hid h10
      clear h10 hW10 hB3 H9 HSO hz9 q3
      go_loopg [11,17,18] J2 (fun gk lv p x wz=>∃(j B:Nat) (g0 g1 g2 g3 g4:Int) (ok3:Bool),gk+j=J2∧p=.pointer (some ⟨B,0,none⟩)∧x=.bool ok3∧L3 G wz wc A B ua g0 g1 g2 g3 g4 ok3 j lv)
      case atStart=>exact⟨0,_,_,_,_,_,_,_,by omega,rfl,rfl,H10.out⟩
      case round=>
       clear H10
       obtain⟨j,B,g0,g1,g2,g3,g4,ok3,hJj,rfl,rfl,hL⟩:=hrel
       obtain⟨xs,hown⟩:=hL.own
       obtain⟨la,lc3,rfl⟩:=za8 hown
       obtain⟨b0,b1,b2,b3,b4⟩:=hL.x
       have yN:=HY0.out _ hL.bel
       have HL3:=Hd2 hL hown
       cases ok3 with
       | true=>
        obtain⟨z,hz,rfl,rfl,rfl,rfl,rfl⟩:=hL.so rfl
        have hjJ:j+1<J2:=by
         rcases Nat.lt_or_ge (j+1) J2 with h | h
         ·exact h
         ·rw[zg9 HE2.out h] at hz;cases hz
        have hzR:=zf7 HS.out.1 hua hz
        have HZ:=Hd2 hz hzR
        obtain⟨wk,hwk⟩:∃wk,wk=wr:=⟨_,rfl⟩
        subst hwk
        have hown2:=hown.alloc (.cells (zb6 z) 160)
        have hnews:=World.news_of_block (cs:=zb6 z) (MapKept.heap_alloc wk (.cells (zb6 z) 160)).1
        have hcs:=hL.bel.size
        have hBl:=za0 b0
        simp only at hBl
        have hAB3:=hL.lt
        have HA:=Hd3 True.intro hown2 hnews
        have yNa:=za4 yN
        have b0a:=za4 b0
        have b1a:=za4 b1
        have b2a:=za4 b2
        have b3a:=za4 b3
        have b4a:=za4 b4
        have neB:some B≠(Value.slice la (j+1) lc3).ownBlock:=fun e=>hL.ne e.symm
        have neN:some N≠(Value.slice la (j+1) lc3).ownBlock:=fun e=>by have:=(hown.lt N e.symm).1;omega
        have HAA:=Hd8 yNa b0a b1a b2a b3a b4a neB neN
        unfold zb6 at HA
        clear hz hzR hown hown2 hnews hL yNa b0a b1a b2a b3a b4a neB neN
        go_wp2_with (at_builtin;refine (wpList_append_lies _ rfl (.tmp 95) (.tmp 97) 157 rfl (A+1) 160 i0 _ 5 40 und157 hi0 hz0' hz1' hz2' rfl (by omega) (.slice la (j+1) lc3) (j+1) _ rfl HA.out.2.1 ⟨wk.heap.size,0,none⟩ 1 1 (zb6 z).toList rfl rfl HA.out.2.2 (by simp[Value.oneCell',zb6]) (by omega) (by unfold maxLen;omega) (by omega) (by simp;omega) (wk.heap.size+1) (by simp) ?_);intro g9 c9 w9 r1 r2 r3 r4;obtain⟨yNa,b0a,b1a,b2a,b3a,b4a,neB,neN⟩:=HAA.out;have s0:=r2.cell (b0a _) neB;have s1:=r2.cell (b1a _) neB;have s2:=r2.cell (b2a _) neB;have s3:=r2.cell (b3a _) neB;have s4:=r2.cell (b4a _) neB;have sN:=r2.cell (yNa _) neN;have s0a:=za4 s0;have s1a:=za4 s1;have s2a:=za4 s2;have s3a:=za4 s3;have s4a:=za4 s4;have sNa:=za4 sN;have HR:=Hd3 r1 r2 r3;clear r1 r2 r3 r4 yNa b0a b1a b2a b3a b4a neB neN)
        obtain⟨B',hB'⟩:∃B',B'=w9.heap.size:=⟨_,rfl⟩
        rw[←hB']
        refine zb4 fun W11 hW11=>?_
        have hwB:wk.heap.size+1≤w9.heap.size:=by have:=HR.out.2.1.size;simpa using this
        have h11:Below A wc W11∧W11.ownsRow (A+1) 160 5 (.slice (some ⟨g9,0,none⟩) (j+1+1) c9) (j+1+1) (xs++(zb6 z).toList)∧C5 W11 B' z∧(∀o,W11.frozen? ⟨B',o,none⟩=false)∧W11.heap.size=B'+1∧g9≠B':=by
         obtain⟨r1,r2,r3⟩:=HR.out
         have hal:=World.grownBy_alloc w9 (.cells #[.int .i64 (z.1:Int),.int .i64 (z.2.1:Int),.int .i64 (z.2.2.1:Int),.int .i64 (z.2.2.2.1:Int),.int .i64 (z.2.2.2.2:Int)] 160) none
         have hnew:=C5.new w9 z 160
         rw[←hW11] at hal
         rw[←hB'] at hnew
         have hg9:=(r1.lt g9 rfl).2
         refine⟨(((HL3.out.1.bel.alloc (by omega) _).grown r2 (by simp;omega) (fun q hq=>by have:=(HL3.out.2.lt q hq).1;omega)).grown hal (by omega) (fun k e=>by cases e)),r1.kept hal (Or.inr (by simp[Value.ownBlock])),by rw[hW11];exact hnew,fun o=>by rw[hW11,hB'];exact World.frozen?_alloc_at _ _ _ _ rfl,by rw[hW11];simp[hB'],by omega⟩
        obtain⟨q1,q2,q3,q4,q5,q6⟩:=h11
        obtain⟨d0,d1,d2,d3,d4,ok4,hnf,hno,hso⟩:=nxA_form (stp G 2 z)
        have hcall:=HNX.out W11 q1 z HZ.out.2 2 (by omega)
        rw[hnf] at hcall
        have HSO:=Lib.hid (show ok4=true→∃y,itr G 2 ua (j+1+1)=some y∧d0=(y.1:Int)∧d1=(y.2.1:Int)∧d2=(y.2.2.1:Int)∧d3=(y.2.2.2.1:Int)∧d4=(y.2.2.2.2:Int) from fun h=>by
         cases hy:stp G 2 z with
         | none=>rw[hno hy] at h;cases h
         | some y=>exact⟨y,by rw[itr,HZ.out.1];exact hy,(hso y hy).2⟩)
        have hAB':A<B':=by omega
        clear hno hso hnf hW11 hB' hwB s0 s1 s2 s3 s4 sN s0a s1a s2a s3a s4a sNa b0 b1 b2 b3 b4 yN
        refine hcall.mono ?_
        rintro e W12 ⟨rfl,hb12⟩
        have hg12:=za6 hb12 (Nat.le_refl _) none
        have r1:Below A wc W12:=q1.trans (hb12.mono (by omega))
        have r2:=q2.kept hg12 (Or.inr (by simp[Value.ownBlock]))
        have r4:=q3.kept hg12 (by simp)
        have r5:∀o,W12.frozen? ⟨B',o,none⟩=false:=fun o=>(hg12.frozen_far ⟨B',o,none⟩ (by show B'<_;omega) (by simp)).trans (q4 o)
        have hz12:B'+1≤W12.heap.size:=by have:=hb12.size;omega
        obtain⟨x0,x1,x2,x3,x4⟩:=r4
        have z0:=r5 0
        have z1:=r5 1
        have z2:=r5 2
        have z3:=r5 3
        have z4:=r5 4
        have H12:=Hd3 r1 r2 r5
        clear hcall hb12 hg12 q1 q2 q3 q4 q5 r1 r2 r5
        go_wp2
        go_roundg (gk-1)
        case measure=>omega
        case rel=>
         obtain⟨r1,r2,r5⟩:=H12.out
         have hgg:=five_grown (zd2 W12 (some B')) (.int .i64 d0) (.int .i64 d1) (.int .i64 d2) (.int .i64 d3) (.int .i64 d4)
         have hWs:=r1.size
         refine⟨j+1,B',d0,d1,d2,d3,d4,ok4,by omega,rfl,rfl,⟨_,r2.kept hgg (Or.inr (by simp[Value.ownBlock];exact q6))⟩,r1.grown hgg (by omega) (fun k e=>by cases e;omega),HSO.out,⟨?_,?_,?_,?_,?_⟩,fun o=>by simp only[World.frozen?_setCell];exact r5 o,by simp[Value.ownBlock];exact q6,hAB'⟩<;>simp[go_sem,x0,x1,x2,x3,x4]
       | false=>
        clear b0 b1 b2 b3 b4 yN
        go_wp2
        go_ret3
        have hb13:Below N w wr:=HE.out.2.2.1.trans (HL3.out.1.bel.mono (by omega))
        exact⟨by rw[←HN.out];exact hb13,_,false,rfl,(fun h=>by cases h),fun _=>⟨k+1,HE.out.1⟩⟩
   | some z=>
    obtain⟨rfl,rfl,rfl,rfl,rfl,rfl⟩:=hso z hst
    have hit:itr G 2 (t,sa,sb,sc,sd) (k+1)=some z:=by rw[itr,hu];exact hst
    have heq:=run_equal_ring (z.1:Int) (t:Int) (z.2.1:Int) (z.2.2.1:Int) (z.2.2.2.1:Int) (z.2.2.2.2:Int) (sa:Int) (sb:Int) (sc:Int) (sd:Int)
    have hre:=ring_eq z (t,sa,sb,sc,sd)
    simp only at hre
    simp only[hre] at heq
    have HZ:=Hd4 hit hR hu hbl2
    clear hR hu hno hso hst hit hbl2 hgc hbc hbl hre
    by_cases hz:z=(t,sa,sb,sc,sd)
    ·simp only[hz,decide_true] at heq
     rw[hz] at x0 x1 x2 x3 x4
     have HZZ:=Lib.hid hz
     clear hz
     go_wp2
     go_ret3
     refine⟨(H4.out.2.1.trans (HZ.out.2.2.2.mono (by omega)):Below N w wc) |> fun h=>(by rw[←HN.out];exact h),_,true,rfl,fun _=>⟨m,by omega,by rw[HM.out,HZ.out.1,HZZ.out],HZ.out.2.1.ne,?_⟩,fun h=>by cases h⟩
     have:=(HZ.out.2.1.kept HC.out.1).own
     rw[←HN.out]
     exact ownsRow_lower this (by omega)
    ·simp only[hz,decide_false] at heq
     have HZZ:=Lib.hid hz
     have hown:=(HZ.out.2.1.kept HC.out.1).own.alloc (.cells (zb6 z) 160)
     have hnews:=World.news_of_block (cs:=zb6 z) (MapKept.heap_alloc wc (.cells (zb6 z) 160)).1
     have hm2:m≤256*G.n:=HZ.out.2.1.bound HS.out.1 HS.out.2.1
     have hsz:=HC.out.1.size
     have hsz3:=HZ.out.2.1.bel.size
     have HA:=Hd3 True.intro hown hnews
     unfold zb6 at HA
     clear hown hnews hz
     go_wp2_with (at_builtin;refine (wpList_append_lies _ rfl (.tmp 60) (.tmp 62) 157 rfl W3.heap.size 160 i0 _ 5 40 und157 hi0 hz0' hz1' hz2' rfl (by omega) (.slice (some ⟨g,0,none⟩) m lc) m _ rfl HA.out.2.1 ⟨wc.heap.size,0,none⟩ 1 1 (zb6 z).toList rfl rfl HA.out.2.2 (by simp[Value.oneCell',zb6]) (by omega) (by unfold maxLen;omega) (by omega) (by simp;omega) (wc.heap.size+1) (by simp) ?_);intro g9 c9 w9 r1 r2 r3 r4;have HR:=Hd2 r1 r2;clear r1 r2 r3 r4)
     have hR2:=HZ.out.2.1.kept HC.out.1
     have hR3:RL G W3 w9 (t,sa,sb,sc,sd) (.slice (some ⟨g9,0,none⟩) (m+1) c9) (m+1):=hR2.push (by rw[HM.out];exact HZ.out.1) HZZ.out HR.out.1 HR.out.2
     have hm3:=hR3.bound HS.out.1 HS.out.2.1
     have hmk:=HM.out
     exact⟨⟨k+1,by omega,by rw[hmk] at hR3;rw[hmk];exact hR3⟩,by show 256*G.n+1-(m+1)<256*G.n+1-m;omega⟩
end
section
open Go.RowKit Go.Shelf Go.Maps
def revB (G:Gl):Bool:=(List.range (nE G)).any (revK G (6*G.n))
def askI (G:Gl):Int:=if za9 G then (if revB G then 8 else 0) else 7
theorem revB_true {G:Gl}{k:Nat}(hk:k<nE G)(h:revK G (6*G.n) k=true):revB G=true:=List.any_eq_true.2 ⟨k,List.mem_range.2 hk,h⟩
theorem revB_false {G:Gl}(h:∀k,k<nE G→revK G (6*G.n) k=false):revB G=false:=by
 rw[revB,List.any_eq_false]
 exact fun k hk=>by rw[h k (List.mem_range.1 hk)];simp
theorem run_field54 (a b c d e f:Value)(w:World):(Instr.field 54 (.agg #[a,b,c,d,e,f]) 4).run Try.prog w=.ok e w:=by kernel_rfl
theorem rasked_walk (G:Gl)(w:World)(v:Value)(hG:GlAt w.heap.size w v G)(hm:G.n≤9223372036854775807) :
  Calls Try.prog 69 #[.agg #[v]] w fun e w'=>e=.returned (.int .i64 (askI G))∧Below w.heap.size w w':=by
 have HG:=Lib.hid hG
 obtain⟨a,b,off,cap,rfl,hga,hc⟩:=hG
 clear hga hc
 have G1:∀W,Below w.heap.size w W→GlAt W.heap.size W (.slice a G.n cap) G:=fun W h=>(HG.out.below h).mono h.size
 have HG1:=Lib.hid G1;clear G1
 go_enter Try.func69,Try.ntmps69
 go_wp2_with fail
 refine (checkRI_walk G _ _ (HG1.out _ (by (repeat' (first | assumption | exact Below.refl _ _ | refine za7 ?_ (by assumption) | refine zb2 ?_ _ | refine za5 ?_ | refine zb1 ?_ (by simp<;>omega) _)))) hm).mono ?_
 rintro e w1 ⟨rfl,hb1⟩
 have h1:w1.cell? ⟨w.heap.size,0,none⟩=some (.slice a G.n cap)∧Below w.heap.size w w1:=by
  exact⟨(hb1.cell (p:=⟨w.heap.size,0,none⟩) (by simp)).trans (World.cell?_alloc_at _ _ _ _ rfl),by (repeat' (first | assumption | exact Below.refl _ _ | refine za7 ?_ (by assumption) | refine zb2 ?_ _ | refine za5 ?_ | refine zb1 ?_ (by simp<;>omega) _))⟩
 generalize hN:w.heap.size=N at *
 obtain⟨c0,hb⟩:=h1
 have H1:=Lib.hid hb
 clear hb hb1
 cases hok:za9 G with
 | false=>
  have e7:zd6 G=7:=by rw[zd6,hok];rfl
  have HX:=Lib.hid (show askI G=7 by rw[askI,hok];rfl)
  rw[e7]
  clear e7 hok
  go_wp2
  go_ret
  exact⟨by rw[HX.out];rfl,hN▸H1.out⟩
 | true=>
  have e0:zd6 G=0:=by rw[zd6,hok];rfl
  rw[e0]
  clear e0
  have HK:=Lib.hid (rskeleton_walk G (.slice a G.n cap) w1 (HG1.out w1 H1.out) hok)
  have HOK:=Lib.hid hok
  clear hok
  go_wp2_with fail
  refine HK.out.mono ?_
  rintro e w2 ⟨sv,rfl,hsk,hb2⟩
  obtain⟨vv,ev,tv,lv,dB,rB,xs,rfl,-,-,-,-,-,hrr,-,-⟩:=hsk.ex
  have hN2:N≤w1.heap.size:=by have:=H1.out.size;omega
  have H2:=Hd2 hrr (H1.out.trans (hb2.mono hN2))
  clear hrr hb2 hsk HK
  obtain⟨sz,hsz⟩:∃sz,sz=nE G:=⟨_,rfl⟩
  rw[←hsz] at H2 ⊢
  have hsm:sz≤6000:=by have:=zg7 (zb5 G).r3 (6*G.n);have h:G.n≤1000:=(by have h:=HOK.out;simp only[za9,Bool.and_eq_true,decide_eq_true_eq] at h;exact h.1);unfold nE at hsz;omega
  have HZ:=Lib.hid hsz
  clear hsz
  have hfld:=run_field54
  go_wp2
  go_loop [15] (fun i=>∃k:Nat,k≤sz∧i=.int .i64 k∧∀j,j<k→revK G (6*G.n) j=false) (fun i=>sz-(intOf i).toNat)
  case atStart=>exact⟨0,by omega,rfl,fun j hj=>absurd hj (by omega)⟩
  case round=>
   obtain⟨k,hk,rfl,hal⟩:=hrel
   have HAL:=Lib.hid hal
   clear hal
   rcases Nat.lt_or_ge k sz with hkn | hkn
   ·have cr:=H2.out.1.cell hkn
    have k0:0≤(k:Int):=by omega
    have ks:(k:Int)<(sz:Int):=by omega
    cases hrv:revK G (6*G.n) k with
    | true=>
     rw[hrv] at cr
     have HX:=Lib.hid (show askI G=8 by rw[askI,HOK.out,revB_true (by rw[←HZ.out];exact hkn) hrv];rfl)
     clear hrv
     go_wp2
     go_ret
     exact⟨by rw[HX.out];rfl,hN▸H2.out.2⟩
    | false=>
     rw[hrv] at cr
     have HX:=Lib.hid hrv
     clear hrv
     go_wp2
     go_round
     case rel=>exact⟨k+1,by omega,rfl,fun j hj=>by
      rcases Nat.lt_or_ge j k with h | h
      ·exact HAL.out j h
      ·rw[show j=k by omega];exact HX.out⟩
     case measure=>simp[intOf];omega
   ·obtain rfl:k=sz:=by omega
    have HX:=Lib.hid (show askI G=0 by rw[askI,HOK.out,revB_false (by rw[←HZ.out];exact HAL.out)];rfl)
    go_wp2
    go_ret
    exact⟨by rw[HX.out];rfl,hN▸H2.out.2⟩
end
section
open Go.RowKit Go.Shelf
theorem gnext_walk {G:Gl}(hok:za9 G=true){s:RS}(hs:Rok G.n s)(v:Value)(w:World)(hG:GlAt w.heap.size w v G) :
  Calls Try.prog 111 #[.agg #[.int .i64 (s.1:Int),.int .i64 (s.2.1:Int),.int .i64 (s.2.2.1:Int),.int .i64 (s.2.2.2.1:Int),.int .i64 (s.2.2.2.2:Int)],.agg #[v]] w fun e w'=>
   e=.returned (nxA (stp G 2 s))∧Below w.heap.size w w':=by
 have HS:=Hd2 hok hs
 have HG:=Lib.hid hG
 obtain⟨a,b,off,cap,rfl,hga,hgc⟩:=hG
 have ht:=hs.t
 obtain⟨⟨la,lb,lc,ld⟩,-⟩:=And.intro hs.l hs.t
 obtain⟨rfl,hb0⟩:=hga (by omega)
 obtain⟨t,sa,sb,f,sd⟩:=s
 simp only at ht la lb lc ld
 obtain⟨N,hN⟩:∃N,N=w.heap.size:=⟨_,rfl⟩
 obtain⟨fb0,fb⟩:=hgc (4*t+f) (by omega)
 rw[show off+5*(4*t+f)=off+t*20+f*5 by omega] at fb0 fb
 obtain⟨T,hT⟩:∃T,T=G.tet (4*t+f):=⟨_,rfl⟩
 obtain⟨pp,hpp⟩:∃pp,pp=G.pm (4*t+f):=⟨_,rfl⟩
 rw[←hT] at fb0
 rw[←hpp] at fb
 have fb1:=fb 0 (by omega)
 have fb2:=fb 1 (by omega)
 have fb3:=fb 2 (by omega)
 have fb4:=fb 3 (by omega)
 rw[Nat.add_zero] at fb1
 rw[←hN]
 rw[←hN] at hb0
 go_enter Try.func111,Try.ntmps111
 go_wp2
 rw[←hN]
 refine zb3 fun W0 hW=>?_
 have h0:Below N w W0∧W0.cell? ⟨N+1,0,none⟩=some (.slice (some ⟨b,off,none⟩) G.n cap)∧C5 W0 N (t,sa,sb,f,sd)∧(∀i,i<5→W0.cell? ⟨N+1+1,i,none⟩=some (.int .i64 0)∧W0.frozen? ⟨N+1+1,i,none⟩=false)∧W0.heap.size=N+3:=by
  rw[hW,hN]
  refine⟨by (repeat' (first | assumption | exact Below.refl _ _ | refine za7 ?_ (by assumption) | refine zb2 ?_ _ | refine za5 ?_ | refine zb1 ?_ (by simp<;>omega) _)),by simp[go_sem],⟨by simp[go_sem],by simp[go_sem],by simp[go_sem],by simp[go_sem],by simp[go_sem]⟩,fun i hi=>?_,by simp⟩
  rcases (show i=0∨i=1∨i=2∨i=3∨i=4 by omega) with rfl | rfl | rfl | rfl | rfl<;>simp[go_sem]
 obtain⟨hb,c0,h5,hres,hz⟩:=h0
 have ct:=h5.1
 have cl:W0.cell? ⟨N,3,none⟩=some (.int .i64 (f:Int)):=h5.2.2.2.1
 have fw:∀o x,w.cell? ⟨b,o,none⟩=some x→W0.cell? ⟨b,o,none⟩=some x:=fun o x hx=>(hb.cell (p:=⟨b,o,none⟩) hb0).trans hx
 have p0:=fw _ _ fb0
 have p1:=fw _ _ fb1
 have p2:=fw _ _ fb2
 have p3:=fw _ _ fb3
 have p4:=fw _ _ fb4
 have H0:=Hd3 hb h5 hres
 have HT:=Hd2 hT hpp
 have c0a:=za4 c0
 have cla:=za4 cl
 have cta:=za4 ct
 have p0a:=za4 p0
 have p1a:=za4 p1
 have p2a:=za4 p2
 have p3a:=za4 p3
 have p4a:=za4 p4
 have t0:0≤(t:Int):=by omega
 have tn:(t:Int)<(G.n:Int):=by omega
 have f0:0≤(f:Int):=by omega
 have f4:(f:Int)<4:=by omega
 clear hW hb h5 hres fw fb fb0 fb1 fb2 fb3 fb4 hgc hga hT hpp hok hs hN
 go_region_held3 (fun w'=>w'.cell? ⟨N+1,0,none⟩=some (.slice (some ⟨b,off,none⟩) G.n cap)∧w'.cell? ⟨N,3,none⟩=some (.int .i64 (f:Int))∧w'.cell? ⟨N,0,none⟩=some (.int .i64 (t:Int)) ∧
   w'.cell? ⟨b,off+t*20+f*5,none⟩=some (.int .i64 T)∧w'.cell? ⟨b,off+t*20+f*5+1,none⟩=some (.int .i64 (pp 0))∧w'.cell? ⟨b,off+t*20+f*5+1+1,none⟩=some (.int .i64 (pp 1))∧w'.cell? ⟨b,off+t*20+f*5+1+2,none⟩=some (.int .i64 (pp 2))∧w'.cell? ⟨b,off+t*20+f*5+1+3,none⟩=some (.int .i64 (pp 3)))
  (first | exact⟨c0,cl,ct,p0,p1,p2,p3,p4⟩ | exact⟨c0a _,cla _,cta _,p0a _,p1a _,p2a _,p3a _,p4a _⟩)
  (fail)
 generalize hWc:World.drew (World.alloc W0 (Obj.cells #[.int .i64 T,.int .i64 (pp 0),.int .i64 (pp 1),.int .i64 (pp 2),.int .i64 (pp 3)] 87))=Wc
 have hcc:Below N w Wc∧C5 Wc N (t,sa,sb,f,sd)∧(∀i,i<5→Wc.cell? ⟨N+1+1,i,none⟩=some (.int .i64 0)∧Wc.frozen? ⟨N+1+1,i,none⟩=false)∧Wc.cell? ⟨N+3,0,none⟩=some (.int .i64 T)∧(∀i,i<4→Wc.cell? ⟨N+3,1+i,none⟩=some (.int .i64 (pp i))):=by
  have hg:W0.grownBy Wc none:=by rw[←hWc];exact za2 (World.grownBy_alloc W0 _ none) (zb0 _ none)
  obtain⟨hb,h5,hres⟩:=H0.out
  refine⟨hb.grown hg (by omega) (fun k e=>by cases e),h5.kept hg (by simp),fun i hi=>⟨hg.cell (hres i hi).1 (by simp),(hg.frozen_far ⟨N+1+1,i,none⟩ (by show N+1+1<_;omega) (by simp)).trans (hres i hi).2⟩,?_,fun i hi=>?_⟩
  ·rw[←hWc,←hz];simp[go_sem]
  ·rw[←hWc,←hz]
   rcases (show i=0∨i=1∨i=2∨i=3 by omega) with rfl | rfl | rfl | rfl<;>simp[go_sem]
 obtain⟨hb,h5,hres,e0,e1⟩:=hcc
 have hzc:=za0 e0
 simp only at hzc
 have HB:=Lib.hid hb
 have HR:=Lib.hid hres
 clear hWc hb hres c0 cl ct p0 p1 p2 p3 p4 c0a cla cta p0a p1a p2a p3a p4a H0 hz
 obtain⟨r0,z0⟩:=HR.out 0 (by omega)
 obtain⟨r1,z1⟩:=HR.out 1 (by omega)
 obtain⟨r2,z2⟩:=HR.out 2 (by omega)
 obtain⟨r3,z3⟩:=HR.out 3 (by omega)
 obtain⟨r4,z4⟩:=HR.out 4 (by omega)
 rcases Int.lt_or_le T 0 with hT0 | hT0
 ·have q2:decide (T<0)=true:=by simpa using hT0
  have hst:stp G 2 (t,sa,sb,f,sd)=none:=by
   unfold stp
   rw[if_pos (by show G.tet (4*t+f)<0;rw[←HT.out.1];exact hT0)]
  have HST:=Lib.hid hst
  clear hst h5 e1
  go_wp2
  refine bodyPost_ret (v:=.tuple #[.agg #[.int .i64 0,.int .i64 0,.int .i64 0,.int .i64 0,.int .i64 0],.bool false]) (by simp[results,Try.results111,go_sem, *]) rfl ⟨by rw[HST.out];rfl,?_⟩
  exact ((((HB.out.setCell (by show N≤N+1+1;omega) _).setCell (by show N≤N+1+1;omega) _).setCell (by show N≤N+1+1;omega) _).setCell (by show N≤N+1+1;omega) _).setCell (by show N≤N+1+1;omega) _
 ·have q2:decide (T<0)=false:=by simp;omega
  have hok:=HS.out.1
  have hk:4*t+f<4*G.n:=by omega
  have hnn:¬G.tet (4*t+f)<0:=by rw[←HT.out.1];omega
  obtain⟨f1,f2,f3⟩:=zc6 hok hk hnn
  have hTx:T=(G.T (4*t+f):Int):=by rw[HT.out.1,f1]
  have hst:stp G 2 (t,sa,sb,f,sd)=some (G.T (4*t+f),G.P (4*t+f) sa,G.P (4*t+f) sb,G.P (4*t+f) sd,G.P (4*t+f) f):=by
   unfold stp
   rw[if_neg (by show ¬G.tet (4*t+f)<0;exact hnn)];rfl
  obtain⟨xa,hxa⟩:∃x,x=pp sa:=⟨_,rfl⟩
  obtain⟨xb,hxb⟩:∃x,x=pp sb:=⟨_,rfl⟩
  obtain⟨xc,hxc⟩:∃x,x=pp f:=⟨_,rfl⟩
  obtain⟨xd,hxd⟩:∃x,x=pp sd:=⟨_,rfl⟩
  have hpP:∀i,i<4→pp i=(G.P (4*t+f) i:Int):=fun i hi=>by rw[HT.out.2,(f3 i hi).1]
  have HST:=Hd6 hst hTx (hxa.trans (hpP sa la)) (hxb.trans (hpP sb lb)) (hxc.trans (hpP f lc)) (hxd.trans (hpP sd ld))
  have d0:Wc.drew.cell? ⟨N+3,0,none⟩=some (.int .i64 T):=e0
  have d1:Wc.drew.cell? ⟨N+3,1+sa,none⟩=some (.int .i64 xa):=by rw[hxa];exact e1 sa la
  have d2:Wc.drew.cell? ⟨N+3,1+sb,none⟩=some (.int .i64 xb):=by rw[hxb];exact e1 sb lb
  have d3:Wc.drew.cell? ⟨N+3,1+f,none⟩=some (.int .i64 xc):=by rw[hxc];exact e1 f lc
  have d4:Wc.drew.cell? ⟨N+3,1+sd,none⟩=some (.int .i64 xd):=by rw[hxd];exact e1 sd ld
  have b1:Wc.drew.cell? ⟨N,1,none⟩=some (.int .i64 (sa:Int)):=h5.2.1
  have b2:Wc.drew.cell? ⟨N,2,none⟩=some (.int .i64 (sb:Int)):=h5.2.2.1
  have b3:Wc.drew.cell? ⟨N,3,none⟩=some (.int .i64 (f:Int)):=h5.2.2.2.1
  have b4:Wc.drew.cell? ⟨N,4,none⟩=some (.int .i64 (sd:Int)):=h5.2.2.2.2
  have a0:0≤(sa:Int):=by omega
  have a4:(sa:Int)<4:=by omega
  have bb0:0≤(sb:Int):=by omega
  have bb4:(sb:Int)<4:=by omega
  have dd0:0≤(sd:Int):=by omega
  have dd4:(sd:Int)<4:=by omega
  clear e1 h5 hst hTx hpP hxa hxb hxc hxd f1 f2 f3 hok hnn
  go_wp2
  refine zc1 22 (by kernel_rfl) (by kernel_rfl) ?_
  simp only[List.take_succ_cons,List.take_zero,List.drop_succ_cons,List.drop_zero]
  repeat (refine wpStill_step (fun K hK=>?_);go_simp;refine hK _ ?_;clear hK K)
  refine wpStill_nil ?_
  go_wp2
  refine bodyPost_ret (v:=.tuple #[.agg #[.int .i64 T,.int .i64 xa,.int .i64 xb,.int .i64 xd,.int .i64 xc],.bool true]) (by simp[results,Try.results111,go_sem, *]) rfl ⟨?_,?_⟩
  ·obtain⟨h1,h2,h3,h4,h5,h6⟩:=HST.out
   rw[h1,h2,h3,h4,h5,h6];rfl
  ·exact (((((za5 HB.out).setCell (by show N≤N+1+1;omega) _).setCell (by show N≤N+1+1;omega) _).setCell (by show N≤N+1+1;omega) _).setCell (by show N≤N+1+1;omega) _).setCell (by show N≤N+1+1;omega) _
end
section
open Go.RowKit Go.Shelf
def smB (t i j f t' i' j' f':Int):Bool:=t==t' && f==f' && (i==i' && j==j' || i==j' && j==i')
theorem gs_fin {t i j f t' i' j' f':Int}{b c:Bool}{w:World}(hb:RowKit.Hid (b=smB t i j f t' i' j' f'))(h:smB t i j f t' i' j' f'=c)(o o2:Obj):Ending.returned (.bool c)=.returned (.bool b)∧Below w.heap.size w ((w.alloc o).alloc o2):=
 ⟨by rw[hb.out,h],((Below.refl _ _).alloc (Nat.le_refl _) _).alloc (by simp) _⟩
theorem gsame_walk (t i j f n t' i' j' f' n':Int)(w:World) :
  Calls Try.prog 112 #[.agg #[.int .i64 t,.int .i64 i,.int .i64 j,.int .i64 f,.int .i64 n],.agg #[.int .i64 t',.int .i64 i',.int .i64 j',.int .i64 f',.int .i64 n']] w fun e w'=>
   e=.returned (.bool (smB t i j f t' i' j' f'))∧Below w.heap.size w w':=by
 obtain⟨b,hb⟩:∃b,b=smB t i j f t' i' j' f':=⟨_,rfl⟩
 rw[←hb]
 have HB:=Lib.hid hb
 clear hb
 obtain⟨N,hN⟩:∃N,N=w.heap.size:=⟨_,rfl⟩
 have HN:=Lib.hid hN
 go_enter Try.func112,Try.ntmps112
 go_wp2_with fail
 clear hN
 go_wp2
 all_goals go_ret
 all_goals exact gs_fin (by assumption) (by simp_all [smB]) _ _
end
section
open Go.RowKit Go.Shelf
theorem gwalk_walk (a:Option Addr)(n cap:Nat)(s:RS)(w:World) :
  Calls Try.prog 77 #[.agg (zb6 s),.agg #[.slice a n cap]] w fun e w'=>e=.returned (.func (.func 110) #[] #[.pointer (some ⟨w.heap.size,0,none⟩),.pointer (some ⟨w.heap.size+1,0,none⟩)])∧w'=(w.alloc (.cells (zb6 s) 136)).alloc (.cells #[.slice a n cap] 24):=by
 unfold zb6
 go_enter Try.func77,Try.ntmps77
 go_wp2
 go_ret
 exact⟨rfl,rfl⟩
end
end Go.Proofs.Ytlckpgahijlmoaa
