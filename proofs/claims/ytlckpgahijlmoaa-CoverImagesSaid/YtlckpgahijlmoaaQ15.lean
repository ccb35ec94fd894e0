/- R11's Same of equal coverings. No condition. -/
import Derived.Test.YtlckpgahijlmoaaQ14
import Derived.Test.YtlckpgahijlmoaaQ11
import Derived.Test.YtlckpgahijlmoaaQ12
set_option maxRecDepth 100000
set_option maxHeartbeats 8000000
namespace Go.Proofs.Ytlckpgahijlmoaa
section
open Go.RowKit Go.Shelf Go.Maps
def skNil:Value:=.agg #[.slice none 0 0,.slice none 0 0,.slice none 0 0,.slice none 0 0,.slice none 0 0,.slice none 0 0]
theorem SkR.mono {W:World}{B B':Nat}{sv:Value}{G:Gl}(h:SkR W B sv G)(hb:B'≤B):SkR W B' sv G:=by
 obtain⟨vv,ev,tv,lv,dB,rB,xs,e,h1,h2,h3,h4,h5,h6,h7,h8⟩:=h.ex
 exact⟨⟨vv,ev,tv,lv,dB,rB,xs,e,ze3 h1 hb,ze3 h2 hb,ze3 h3 hb,ze3 h4 hb,h5,h6,by omega,by omega⟩⟩
theorem SkR.other {W:World}{B:Nat}{sv:Value}{G:Gl}(h:SkR W B sv G){A:Nat}(hA:A<B)(o:Nat)(v:Value):SkR (W.setCell ⟨A,o,none⟩ v) B sv G:=by
 obtain⟨vv,ev,tv,lv,dB,rB,xs,e,h1,h2,h3,h4,⟨g,h5⟩,h6,h7,h8⟩:=h.ex
 have hsc:=za1 W A o v
 have k:∀{e:TypeId} {s n:Nat} {u:Value} {ys:List Value},W.ownsRow B e s u n ys→u.ownBlock=none∨u.ownBlock≠some A:=fun {e s n u ys} hu=>by
  cases hq:u.ownBlock with
  | none=>exact .inl rfl
  | some j=>exact .inr (by have:=hu.lt j hq;simp;omega)
 exact⟨⟨vv,ev,tv,lv,dB,rB,xs,e,h1.kept hsc (k h1),h2.kept hsc (k h2),h3.kept hsc (k h3),h4.kept hsc (k h4),⟨g,za3 h5 hsc (by simp;omega)⟩,za3 h6 hsc (by simp;omega),h7,h8⟩⟩
theorem SkR.form {W:World}{B:Nat}{sv:Value}{G:Gl}(h:SkR W B sv G):∃a0 a1 a2 a5 p0 p1 p2 p5 dB rB,sv=.agg #[.slice a0 G.n p0,.slice a1 G.n p1,.slice a2 G.n p2,.slice (some ⟨dB,0,none⟩) (nE G) (nE G),.slice (some ⟨rB,0,none⟩) (nE G) (nE G),.slice a5 (nV G) p5]:=by
 obtain⟨vv,ev,tv,lv,dB,rB,xs,e,h1,h2,h3,h4,h5,h6,h7,h8⟩:=h.ex
 obtain⟨a0,p0,e0⟩:=za8 h1
 obtain⟨a1,p1,e1⟩:=za8 h2
 obtain⟨a2,p2,e2⟩:=za8 h3
 obtain⟨a5,p5,e5⟩:=za8 h4
 exact⟨a0,a1,a2,a5,p0,p1,p2,p5,dB,rB,by rw[e,e0,e1,e2,e5]⟩
theorem Of_walk (G:Gl)(v:Value)(w:World)(hG:GlAt w.heap.size w v G)(hm:G.n≤9223372036854775807) :
  Calls Try.prog 23 #[.agg #[v]] w fun e w'=>Below w.heap.size w w'∧((za9 G=false∧e=.returned (.tuple #[skNil,.int .i64 7]))∨(za9 G=true∧∃sv,e=.returned (.tuple #[sv,.int .i64 0])∧SkR w' w.heap.size sv G)):=by
 have HG:=Lib.hid hG
 obtain⟨a,b,off,cap,rfl,hga,hc⟩:=hG
 clear hga hc
 have G1:∀o o2,GlAt ((w.alloc o).alloc o2).heap.size ((w.alloc o).alloc o2) (.slice a G.n cap) G:=fun o o2=>(HG.out.below (B:=w.heap.size) (by (repeat' (first | assumption | exact Below.refl _ _ | refine za7 ?_ (by assumption) | refine zb2 ?_ _ | refine za5 ?_ | refine zb1 ?_ (by simp<;>omega) _)))).mono (by simp;omega)
 go_enter Try.func23,Try.ntmps23
 go_wp2_with fail
 refine (Check_walk G (.slice a G.n cap) _ (G1 _ _) hm).mono ?_
 rintro e W2 ⟨rfl,hb⟩
 have hz:=hb.size
 simp only[World.size_alloc] at hz
 have hbw:Below w.heap.size w W2:=by (repeat' (first | assumption | exact Below.refl _ _ | refine za7 ?_ (by assumption) | refine zb2 ?_ _ | refine za5 ?_ | refine zb1 ?_ (by simp<;>omega) _))
 have x0:W2.cell? ⟨w.heap.size,0,none⟩=some (.slice a G.n cap):=(hb.cell (p:=⟨w.heap.size,0,none⟩) (by simp;omega)).trans (by simp[go_sem])
 have zc:∀o,o<6→W2.cell? ⟨w.heap.size+1,o,none⟩=some (.slice none 0 0):=fun o ho=>(hb.cell (p:=⟨w.heap.size+1,o,none⟩) (by simp)).trans (by
  obtain rfl | rfl | rfl | rfl | rfl | rfl:o=0∨o=1∨o=2∨o=3∨o=4∨o=5:=by omega
  all_goals simp[go_sem])
 have zf:∀o,W2.frozen? ⟨w.heap.size+1,o,none⟩=false:=fun o=>(hb.frozen (p:=⟨w.heap.size+1,o,none⟩) (by simp)).trans (by simp[go_sem])
 have z0:=zc 0 (by omega)
 have z1:=zc 1 (by omega)
 have z2:=zc 2 (by omega)
 have z3:=zc 3 (by omega)
 have z4:=zc 4 (by omega)
 have z5:=zc 5 (by omega)
 have HB:=Lib.hid hbw
 have HZ:=Hd2 zc zf
 clear hbw hb G1
 cases hok:za9 G with
 | false=>
  have HOK:=Lib.hid hok
  have e7:zd6 G=7:=by simp[zd6,hok]
  rw[e7]
  clear hok zc e7
  go_wp2
  refine bodyPost_ret (v:=.tuple #[skNil,.int .i64 7]) (by simp[results,Try.results23,go_sem,skNil, *]) rfl ⟨six_below HB.out (by omega) _ _ _ _ _ _,.inl ⟨HOK.out,rfl⟩⟩
 | true=>
  have HOK:=Lib.hid hok
  have e7:zd6 G=0:=by simp[zd6,hok]
  rw[e7]
  have G2:GlAt W2.heap.size W2 (.slice a G.n cap) G:=(HG.out.below HB.out).mono (by omega)
  clear hok zc e7 z0 z1 z2 z3 z4 z5 zf
  go_wp2_with fail
  refine (skeleton_walk G (.slice a G.n cap) _ G2 HOK.out).mono ?_
  rintro e W3 ⟨sv,rfl,hs,hb3⟩
  have HS:=Lib.hid hs
  obtain⟨a0,a1,a2,a5,p0,p1,p2,p5,dB,rB,rfl⟩:=hs.form
  have hz3:=hb3.size
  have zc:∀o,o<6→W3.cell? ⟨w.heap.size+1,o,none⟩=some (.slice none 0 0):=fun o ho=>(hb3.cell (p:=⟨w.heap.size+1,o,none⟩) (by show w.heap.size+1<_;omega)).trans (HZ.out.1 o ho)
  have zf:∀o,W3.frozen? ⟨w.heap.size+1,o,none⟩=false:=fun o=>(hb3.frozen (p:=⟨w.heap.size+1,o,none⟩) (by show w.heap.size+1<_;omega)).trans (HZ.out.2 o)
  have z0:=zc 0 (by omega)
  have z1:=zc 1 (by omega)
  have z2:=zc 2 (by omega)
  have z3:=zc 3 (by omega)
  have z4:=zc 4 (by omega)
  have z5:=zc 5 (by omega)
  have HB3:=Lib.hid (za7 HB.out hb3)
  clear zc hs hb3
  go_wp2
  refine bodyPost_ret (v:=.tuple #[.agg #[.slice a0 G.n p0,.slice a1 G.n p1,.slice a2 G.n p2,.slice (some ⟨dB,0,none⟩) (nE G) (nE G),.slice (some ⟨rB,0,none⟩) (nE G) (nE G),.slice a5 (nV G) p5],.int .i64 0]) (by simp[results,Try.results23,go_sem, *]) rfl ⟨six_below HB3.out (by omega) _ _ _ _ _ _,.inr ⟨HOK.out,_,rfl,?_⟩⟩
  exact ((((((HS.out.other (by omega) 0 _).other (by omega) 1 _).other (by omega) 2 _).other (by omega) 3 _).other (by omega) 4 _).other (by omega) 5 _).mono (by omega)
end
section
open Go.RowKit
def PR (n:Nat)(r:Nat→Nat):Prop:=∃u,Reps n u r
theorem PR.join {n:Nat}{r:Nat→Nat}(h:PR n r){i j:Nat}(hi:i<n)(hj:j<n):PR n (joinR r i j):=by
 obtain⟨u,hu⟩:=h
 exact⟨_,hu.join i j hi hj⟩
def CInv (n:Nat)(s:Cls):Prop:=PR (4*n) s.r1∧PR (16*n) s.r2∧PR (6*n) s.r3∧PR (4*n) s.r4
theorem lp_inv {α:Type}{f:Nat→α→α}{p:α→Prop}{s:α}(hs:p s):∀{n:Nat},(∀i,i<n→∀s,p s→p (f i s))→p (lp f s n):=by
 intro n
 induction n with
 | zero=>intro _;exact hs
 | succ n ih=>intro h;exact h n (by omega) _ (ih (fun i hi=>h i (by omega)))
theorem cls_inv {G:Gl}(h:za9 G=true):CInv G.n (zb5 G):=by
 have z:∀n,PR n id:=fun n=>⟨id,fun i _=>Nat.le_refl _,fun _ _=>rfl,fun _ _ _=>rfl⟩
 refine lp_inv (p:=CInv G.n) ⟨z _,z _,z _,z _⟩ fun k hk s hs=>?_
 unfold clsF
 split
 ·exact hs
 ·next ht=>
  obtain⟨h1,h2,hp⟩:=zc6 h hk ht
  have hinj:=ok_inj h hk ht
  have pk:=(hp (k % 4) (by omega)).2
  refine lp_inv (p:=CInv G.n) ?_ ?_
  ·exact⟨hs.1,hs.2.1,hs.2.2.1,hs.2.2.2.join hk (by omega)⟩
  clear hs
  intro i hi s hs
  unfold clsI
  split
  ·exact hs
  ·next hik=>
   have pi:=(hp i hi).2
   refine lp_inv (p:=CInv G.n) ?_ ?_
   ·exact⟨hs.1.join (by omega) (by omega),hs.2⟩
   clear hs
   intro j hj s hs
   unfold clsJ
   split
   ·next hjk=>
    have pj:=(hp j hj).2
    have e1:=(edN_eq i j hi hj (fun e=>hjk.2 e.symm)).2
    have e2:=(edN_eq (G.P k i) (G.P k j) pi pj (hinj i j hi hj (fun e=>hjk.2 e.symm))).2
    exact⟨hs.1,hs.2.1.join (by omega) (by omega),hs.2.2.1.join (by omega) (by omega),hs.2.2.2⟩
   ·exact hs
def nF (G:Gl):Nat:=cnt (zb5 G).r4 (4*G.n)
theorem fN_lt {G:Gl}(h:za9 G=true){k:Nat}(hk:k<4*G.n):fN G k<nF G:=by
 obtain⟨u,hu⟩:=(cls_inv h).2.2.2
 have:=hu.rle k hk
 exact cnt_lt _ (hu.idem k hk) (by omega)
theorem eN_lt' {G:Gl}(h:za9 G=true){k:Nat}(hk:k<6*G.n):eN G k<nE G:=by
 obtain⟨u,hu⟩:=(cls_inv h).2.2.1
 have:=hu.rle k hk
 exact cnt_lt _ (hu.idem k hk) (by omega)
theorem fN_first {G:Gl}(h:za9 G=true){k:Nat}(hk:k<4*G.n):cnt (zb5 G).r4 (k+1)=if fN G k=cnt (zb5 G).r4 k then cnt (zb5 G).r4 k+1 else cnt (zb5 G).r4 k:=by
 obtain⟨u,hu⟩:=(cls_inv h).2.2.2
 have hr:=hu.rle k hk
 have hi:=hu.idem k hk
 simp only[cnt]
 by_cases e:(zb5 G).r4 k=k
 ·rw[if_pos e,if_pos (by unfold fN;rw[e])]
 ·rw[if_neg e,if_neg]
  ·rfl
  ·have:=cnt_lt (zb5 G).r4 (i:=k) (n:=k) hi (by omega)
   unfold fN;omega
def fD (G:Gl):Nat→Nat×Nat→Option Nat
 | 0=>fun _=>none
 | k+1=>if fN G k=cnt (zb5 G).r4 k then fun p=>if p=(k / 4,k % 4) then some (fN G k) else fD G k p else fD G k
end
section
open Go.RowKit Go.Shelf Go.Maps
theorem und78:Try.prog.underlying 78=some (.map 83 3):=by kernel_rfl
structure SP (W:World)(B X mb:Nat)(v:Value)(G:Gl)(k:Nat)(vv ev tv lv:Value)(dB rB:Nat):Prop where
 c0:W.cell? ⟨X,0,none⟩=some v
 c1:W.cell? ⟨X,1,none⟩=some vv
 c2:W.cell? ⟨X,2,none⟩=some ev
 c3:W.cell? ⟨X,3,none⟩=some tv
 c4:W.cell? ⟨X,4,none⟩=some (.slice (some ⟨dB,0,none⟩) (nE G) (nE G))
 c5:W.cell? ⟨X,5,none⟩=some (.slice (some ⟨rB,0,none⟩) (nE G) (nE G))
 c6:W.cell? ⟨X,6,none⟩=some lv
 c7:W.cell? ⟨X,7,none⟩=some (.map (some mb))
 c8:W.cell? ⟨X,8,none⟩=some (.int .i64 (cnt (zb5 G).r4 k:Nat))
 f8:W.frozen? ⟨X,8,none⟩=false
 own:W.ownsRow B 162 6 ev G.n (ints (eN G) (6*G.n))
 twn:W.ownsRow B 84 4 tv G.n (ints (fN G) (4*G.n))
 map:∃nn,MapIs W 83 okp kp vi mb nn (fD G k)
 ne:X≠mb∧ev.ownBlock≠some X∧ev.ownBlock≠some mb∧tv.ownBlock≠some X∧tv.ownBlock≠some mb
 lo:B≤X∧B≤mb
theorem SP.lt {W:World}{B X mb:Nat}{v:Value}{G:Gl}{k:Nat}{vv ev tv lv:Value}{dB rB:Nat}(h:SP W B X mb v G k vv ev tv lv dB rB):X<W.heap.size:=za0 h.c0
theorem SP.kept {W W':World}{B X mb:Nat}{v:Value}{G:Gl}{k:Nat}{vv ev tv lv:Value}{dB rB:Nat}(h:SP W B X mb v G k vv ev tv lv dB rB)(hg:W.grownBy W' none):SP W' B X mb v G k vv ev tv lv dB rB:=by
 have ow:∀v:Value,v.ownBlock=none∨v.ownBlock≠none:=fun v=>by cases v.ownBlock<;>simp
 obtain⟨nn,hm⟩:=h.map
 exact⟨hg.cell h.c0 (by simp),hg.cell h.c1 (by simp),hg.cell h.c2 (by simp),hg.cell h.c3 (by simp),hg.cell h.c4 (by simp),hg.cell h.c5 (by simp),hg.cell h.c6 (by simp),hg.cell h.c7 (by simp),hg.cell h.c8 (by simp),
  (hg.frozen_far ⟨X,8,none⟩ h.lt (by simp)).trans h.f8,h.own.kept hg (ow _),h.twn.kept hg (ow _),⟨nn,hm.kept hg (by simp)⟩,h.ne,h.lo⟩
theorem SP.below {W W':World}{B X mb:Nat}{v:Value}{G:Gl}{k:Nat}{vv ev tv lv:Value}{dB rB:Nat}(h:SP W B X mb v G k vv ev tv lv dB rB)(hb:Below W.heap.size W W'):SP W' B X mb v G k vv ev tv lv dB rB:=h.kept (za6 hb (Nat.le_refl _) none)
theorem SP.enter {W W3:World}{B X mb:Nat}{v:Value}{G:Gl}{t f:Nat}{vv ev tv lv:Value}{dB rB:Nat}(hok:za9 G=true)(hf:f<4)(hk:4*t+f<4*G.n)(h:SP W B X mb v G (4*t+f) vv ev tv lv dB rB)(hq:fN G (4*t+f)=cnt (zb5 G).r4 (4*t+f)){nn:Nat}
  (h1:MapIs W3 83 okp kp vi mb nn (fun p=>if p=(t,f) then some (fN G (4*t+f)) else fD G (4*t+f) p)) (h2:W.grownBy W3 (some mb)) :
  SP (W3.setCell ⟨X,8,none⟩ (.int .i64 ((cnt (zb5 G).r4 (4*t+f)+1:Nat):Int))) B X mb v G (4*t+(f+1)) vv ev tv lv dB rB:=by
 obtain⟨n1,n2,n3,n4,n5⟩:=h.ne
 have hX:some X≠some mb:=by simpa using n1
 have hsc:=za1 W3 X 8 (.int .i64 ((cnt (zb5 G).r4 (4*t+f)+1:Nat):Int))
 have e:=fN_first hok hk
 rw[if_pos hq] at e
 have ow:∀(v:Value) (b:Nat),v.ownBlock≠some b→(v.ownBlock=none∨v.ownBlock≠some b):=fun v b h=>.inr h
 refine⟨zc0 (h2.cell h.c0 hX) (by omega),zc0 (h2.cell h.c1 hX) (by omega),zc0 (h2.cell h.c2 hX) (by omega),zc0 (h2.cell h.c3 hX) (by omega),zc0 (h2.cell h.c4 hX) (by omega),zc0 (h2.cell h.c5 hX) (by omega),zc0 (h2.cell h.c6 hX) (by omega),zc0 (h2.cell h.c7 hX) (by omega),?_,?_,(h.own.kept h2 (.inr n3)).kept hsc (.inr n2),(h.twn.kept h2 (.inr n5)).kept hsc (.inr n4),⟨nn,?_⟩,h.ne,h.lo⟩
 ·show _=some (Value.int .i64 ((cnt (zb5 G).r4 ((4*t+f)+1):Nat):Int))
  rw[e];exact World.cell?_setCell_same _ _ _ (h2.cell h.c8 hX)
 ·rw[World.frozen?_setCell];exact (h2.frozen_far ⟨X,8,none⟩ h.lt hX).trans h.f8
 ·refine (h1.kept hsc (by simp;exact fun e=>n1 e.symm)).congr (fun p=>?_)
  show _=fD G ((4*t+f)+1) p
  rw[fD,if_pos hq,show (4*t+f) / 4=t by omega,show (4*t+f) % 4=f by omega]
theorem SP.skip {W:World}{B X mb:Nat}{v:Value}{G:Gl}{t f:Nat}{vv ev tv lv:Value}{dB rB:Nat}(hok:za9 G=true)(hk:4*t+f<4*G.n)(h:SP W B X mb v G (4*t+f) vv ev tv lv dB rB)(hq:fN G (4*t+f)≠cnt (zb5 G).r4 (4*t+f)) :
  SP W B X mb v G (4*t+(f+1)) vv ev tv lv dB rB:=by
 have e:=fN_first hok hk
 rw[if_neg hq] at e
 obtain⟨nn,hm⟩:=h.map
 refine⟨h.c0,h.c1,h.c2,h.c3,h.c4,h.c5,h.c6,h.c7,?_,h.f8,h.own,h.twn,⟨nn,hm.congr (fun p=>?_)⟩,h.ne,h.lo⟩
 ·show _=some (Value.int .i64 ((cnt (zb5 G).r4 ((4*t+f)+1):Nat):Int))
  rw[e];exact h.c8
 ·show _=fD G ((4*t+f)+1) p
  rw[fD,if_neg hq]
theorem enter_walk (G:Gl)(v:Value)(w:World)(hG:GlAt w.heap.size w v G)(hm:G.n≤9223372036854775807) :
  Calls Try.prog 41 #[.agg #[v]] w fun e w'=>Below w.heap.size w w'∧((za9 G=false∧e=.returned (.tuple #[.pointer none,.int .i64 7])) ∨
   (za9 G=true∧(∃i,i<nE G∧revK G (6*G.n) i=true)∧e=.returned (.tuple #[.pointer none,.int .i64 8])) ∨
   (za9 G=true∧(∀i,i<nE G→revK G (6*G.n) i=false)∧∃X mb vv ev tv lv dB rB,e=.returned (.tuple #[.pointer (some ⟨X,0,none⟩),.int .i64 0])∧SP w' w.heap.size X mb v G (4*G.n) vv ev tv lv dB rB)):=by
 have hmm:=@run_makeMap Try.prog
 have HG:=Lib.hid hG
 obtain⟨a,b,off,cap,rfl,hga,hc⟩:=hG
 clear hga hc
 have G1:∀o,GlAt (w.alloc o).heap.size (w.alloc o) (.slice a G.n cap) G:=fun o=>(HG.out.below (B:=w.heap.size) (by (repeat' (first | assumption | exact Below.refl _ _ | refine za7 ?_ (by assumption) | refine zb2 ?_ _ | refine za5 ?_ | refine zb1 ?_ (by simp<;>omega) _)))).mono (by simp)
 go_enter Try.func41,Try.ntmps41
 go_wp2_with fail
 refine (Check_walk G (.slice a G.n cap) _ (G1 _) hm).mono ?_
 rintro e W2 ⟨rfl,hb⟩
 have hz:=hb.size
 simp only[World.size_alloc] at hz
 have hbw:Below w.heap.size w W2:=by (repeat' (first | assumption | exact Below.refl _ _ | refine za7 ?_ (by assumption) | refine zb2 ?_ _ | refine za5 ?_ | refine zb1 ?_ (by simp<;>omega) _))
 have x0:W2.cell? ⟨w.heap.size,0,none⟩=some (.slice a G.n cap):=(hb.cell (p:=⟨w.heap.size,0,none⟩) (by simp)).trans (by simp[go_sem])
 have HB:=Lib.hid hbw
 clear hbw hb G1
 cases hok:za9 G with
 | false=>
  have HOK:=Lib.hid hok
  have e7:zd6 G=7:=by simp[zd6,hok]
  rw[e7]
  clear hok e7
  go_wp2
  go_ret2
  exact⟨HB.out,.inl ⟨HOK.out,rfl⟩⟩
 | true=>
  have HOK:=Lib.hid hok
  have e7:zd6 G=0:=by simp[zd6,hok]
  rw[e7]
  have G2:GlAt W2.heap.size W2 (.slice a G.n cap) G:=(HG.out.below HB.out).mono (by omega)
  clear hok e7
  have hn:G.n≤1000:=by have:=HOK.out;simp[za9] at this;exact this.1
  have hsz:nE G≤6000:=by have:=zg7 (zb5 G).r3 (6*G.n);unfold nE;omega
  go_wp2_with fail
  refine (Of_walk G (.slice a G.n cap) _ G2 hm).mono ?_
  rintro e W3 ⟨hb3,(⟨h,_⟩ | ⟨_,sv,rfl,hs⟩)⟩
  ·rw[HOK.out] at h;cases h
  obtain⟨vv,ev,tv,lv,dB,rB,xs,rfl,s1,s2,s3,s4,s5,s6,s7,s8⟩:=hs.ex
  obtain⟨a0,p0,rfl⟩:=za8 s1
  obtain⟨a1,p1,rfl⟩:=za8 s2
  obtain⟨a2,p2,rfl⟩:=za8 s3
  obtain⟨a5,p5,rfl⟩:=za8 s4
  have hz3:=hb3.size
  have y0:=(hb3.cell (p:=⟨w.heap.size,0,none⟩) (by show w.heap.size<_;omega)).trans x0
  have HB3:=Lib.hid (za7 HB.out hb3)
  have HS:=Hd8 s1 s2 s3 s4 s5 s6 s7 s8
  clear hs s1 s2 s3 s4 s5 s6 s7 s8 hb3 x0 G2
  go_wp2
  refine zb3 fun W4 hW=>?_
  have h4:W3.grownBy W4 none∧W4.heap.size=W3.heap.size+1∧W4.cell? ⟨W3.heap.size,0,none⟩=some (.slice a0 G.n p0)∧W4.cell? ⟨W3.heap.size,1,none⟩=some (.slice a1 G.n p1)∧W4.cell? ⟨W3.heap.size,2,none⟩=some (.slice a2 G.n p2)∧W4.cell? ⟨W3.heap.size,3,none⟩=some (.slice (some ⟨dB,0,none⟩) (nE G) (nE G))∧W4.cell? ⟨W3.heap.size,4,none⟩=some (.slice (some ⟨rB,0,none⟩) (nE G) (nE G))∧W4.cell? ⟨W3.heap.size,5,none⟩=some (.slice a5 (nV G) p5):=by
   rw[hW]
   exact⟨World.grownBy_alloc W3 _ none,by simp,by simp[go_sem],by simp[go_sem],by simp[go_sem],by simp[go_sem],by simp[go_sem],by simp[go_sem]⟩
  obtain⟨g4,z4,k0,k1,k2,k3,k4,k5⟩:=h4
  clear hW
  have y04:=g4.cell y0 (by simp)
  have hrr:=za3 HS.out.2.2.2.2.2.1 g4 (by simp)
  have HR:=Lib.hid hrr
  have HB4:Below w.heap.size w W4:=HB3.out.grown g4 (by have:=HB3.out.size;omega) (fun k hk=>by cases hk)
  have HB4:=Lib.hid HB4
  have H4:=Lib.hid g4
  clear hrr y0 g4
  go_loopw [27] (fun i wr=>∃j:Nat,j≤nE G∧i=.int .i64 j∧(∀i,i<j→revK G (6*G.n) i=false)∧wr=W4) (fun i _=>nE G-(intOf i).toNat)
  case atStart=>exact⟨0,by omega,rfl,by omega,rfl⟩
  case round=>
   obtain⟨j,hj,rfl,hall,rfl⟩:=hrel
   have HA:=Lib.hid hall;clear hall
   rcases Nat.lt_or_ge j (nE G) with hjn | hjn
   ·have hc:=HR.out.cell hjn
    have j0:0≤(j:Int):=by omega
    have jn:(j:Int)<(nE G:Int):=by omega
    cases hv:revK G (6*G.n) j with
    | true=>
     rw[hv] at hc
     have HV:=Lib.hid hv;clear hv k0 k1 k2 k3 k5
     go_wp2
     go_ret2
     exact⟨HB4.out,.inr (.inl ⟨HOK.out,⟨j,hjn,HV.out⟩,rfl⟩)⟩
    | false=>
     rw[hv] at hc
     have HV:=Lib.hid hv;clear hv k0 k1 k2 k3 k5
     go_wp2
     go_roundw
     case rel=>
      refine⟨j+1,by omega,rfl,fun i hi=>?_,trivial⟩
      by_cases e:i=j
      ·subst e;exact HV.out
      ·exact HA.out i (by omega)
     case measure=>simp[intOf];omega
   ·obtain rfl:j=nE G:=by omega
    have hmW:=hmm 78 wr
    have ya:=za4 y04
    have k0a:=za4 k0
    have k1a:=za4 k1
    have k2a:=za4 k2
    have k3a:=za4 k3
    have k4a:=za4 k4
    have k5a:=za4 k5
    go_wp2
    refine zb3 fun W5 hW=>?_
    have hSP:SP W5 w.heap.size (W3.heap.size+1+1) (W3.heap.size+1) (.slice a G.n cap) G (4*0) (.slice a0 G.n p0) (.slice a1 G.n p1) (.slice a2 G.n p2) (.slice a5 (nV G) p5) dB rB:=by
     have g45:W3.grownBy W5 none:=by rw[hW];exact za2 H4.out (za2 (World.grownBy_alloc wr _ none) (World.grownBy_alloc _ _ none))
     have ow:∀v:Value,v.ownBlock=none∨v.ownBlock≠none:=fun v=>by cases v.ownBlock<;>simp
     have l1:=HS.out.2.1.lt
     have l2:=HS.out.2.2.1.lt
     have hbs:=HB3.out.size
     refine⟨?_,?_,?_,?_,?_,?_,?_,?_,?_,?_,ze3 (HS.out.2.1.kept g45 (ow _)) (by omega),ze3 (HS.out.2.2.1.kept g45 (ow _)) (by omega),⟨0,?_⟩,⟨by omega,fun e=>?_,fun e=>?_,fun e=>?_,fun e=>?_⟩,⟨by omega,by omega⟩⟩
     ·rw[hW,←z4];simp[go_sem]
     ·rw[hW,←z4];simp[go_sem]
     ·rw[hW,←z4];simp[go_sem]
     ·rw[hW,←z4];simp[go_sem]
     ·rw[hW,←z4];simp[go_sem]
     ·rw[hW,←z4];simp[go_sem]
     ·rw[hW,←z4];simp[go_sem]
     ·rw[hW,←z4];simp[go_sem]
     ·rw[hW,←z4];simp[go_sem,cnt]
     ·rw[hW,←z4];simp[go_sem]
     ·rw[hW,←z4];exact ((MapIs.made wr).kept (World.grownBy_alloc _ _ none) (by simp)).congr (fun p=>by simp[fD])
     ·have:=(l1 _ e).2;omega
     ·have:=(l1 _ e).2;omega
     ·have:=(l2 _ e).2;omega
     ·have:=(l2 _ e).2;omega
    have hB5:Below w.heap.size w W5:=by rw[hW];exact (HB4.out.alloc HB4.out.size _).alloc (by have:=HB4.out.size;simp;omega) _
    clear hW hmW ya k0a k1a k2a k3a k4a k5a k0 k1 k2 k3 k4 k5 y04
    have H5:=Hd2 hSP hB5;clear hSP hB5
    generalize hX:W3.heap.size+1+1=X at *
    generalize hM:W3.heap.size+1=M at *
    go_loopw [41] (fun i wr=>∃t:Nat,t≤G.n∧i=.int .i64 t∧SP wr w.heap.size X M (.slice a G.n cap) G (4*t) (.slice a0 G.n p0) (.slice a1 G.n p1) (.slice a2 G.n p2) (.slice a5 (nV G) p5) dB rB∧Below w.heap.size w wr) (fun i _=>G.n-(intOf i).toNat)
    case atStart=>exact⟨0,by omega,rfl,H5.out.1,H5.out.2⟩
    case round=>
     clear H5
     obtain⟨t,ht,rfl,hSP,hB⟩:=hrel
     rcases Nat.lt_or_ge t G.n with htn | htn
     ·obtain⟨gt,ct,ht2,_,_⟩:=hSP.twn.form (by omega)
      obtain⟨rfl,rfl⟩:a2=some ⟨gt,0,none⟩∧p2=ct:=by simpa using ht2
      have hr:∀i,i<4→wr.cell? ⟨gt,t*4+i,none⟩=some (.int .i64 (fN G (4*t+i):Nat)):=fun i hi=>by
       have:=hSP.twn.cells (g:=gt) rfl (4*t+i) _ (ints_get (fN G) (4*G.n) (4*t+i) (by omega))
       rw[Addr.add_mid,Nat.zero_add] at this
       rw[show t*4+i=4*t+i by omega];exact this
      have e0:=hr 0 (by omega)
      have e1:=hr 1 (by omega)
      have e2:=hr 2 (by omega)
      have e3:=hr 3 (by omega)
      rw[Nat.add_zero] at e0
      rw[Nat.add_zero] at e0
      have t0:0≤(t:Int):=by omega
      have tn:(t:Int)<(G.n:Int):=by omega
      have c3:=hSP.c3
      have HK:=Hd2 hSP hB
      clear hSP hB hr ht2
      go_wp2
      refine zb3 fun W6 hW=>?_
      have h6:wr.grownBy W6 none:=by rw[hW];exact World.grownBy_alloc wr _ none
      clear hW e0 e1 e2 e3 c3
      have H6:=Lib.hid (show SP W6 w.heap.size X M (.slice a G.n cap) G (4*t+0) (.slice a0 G.n p0) (.slice a1 G.n p1) (.slice (some ⟨gt,0,none⟩) G.n p2) (.slice a5 (nV G) p5) dB rB∧Below w.heap.size w W6 from⟨HK.out.1.kept h6,HK.out.2.grown h6 HK.out.2.size (fun k hk=>by cases hk)⟩)
      clear h6 HK
      go_loopw [47] (fun i wr=>∃f:Nat,f≤4∧i=.int .i64 f∧SP wr w.heap.size X M (.slice a G.n cap) G (4*t+f) (.slice a0 G.n p0) (.slice a1 G.n p1) (.slice (some ⟨gt,0,none⟩) G.n p2) (.slice a5 (nV G) p5) dB rB∧Below w.heap.size w wr) (fun i _=>4-(intOf i).toNat)
      case atStart=>exact⟨0,by omega,rfl,H6.out.1,H6.out.2⟩
      case round=>
       clear H6
       obtain⟨f,hf,rfl,hSP,hB⟩:=hrel
       rcases Nat.lt_or_ge f 4 with hf4 | hf4
       ·have hix:∀w,(Instr.index 84 (.agg #[.int .i64 ((fN G (4*t):Nat):Int),.int .i64 ((fN G (4*t+1):Nat):Int),.int .i64 ((fN G (4*t+2):Nat):Int),.int .i64 ((fN G (4*t+3):Nat):Int)]) (.int .i64 (f:Int))).run Try.prog w=.ok (.int .i64 ((fN G (4*t+f):Nat):Int)) w:=fun w=>P84_index (fun i=>(fN G (4*t+i):Int)) f hf4 w
        have hk:4*t+f<4*G.n:=by omega
        have c7:=hSP.c7
        have c8:=hSP.c8
        have f8:=hSP.f8
        obtain⟨nn,hmap⟩:=hSP.map
        have hC:=zg7 (zb5 G).r4 (4*t+f)
        obtain⟨C,hCe⟩:∃C,C=cnt (zb5 G).r4 (4*t+f):=⟨_,rfl⟩
        rw[←hCe] at c8 hC
        obtain⟨y,hy⟩:∃y,y=fN G (4*t+f):=⟨_,rfl⟩
        rw[←hy] at hix
        have hne:=hSP.ne
        have hy2:y<9223372036854775808:=by
         have h1:=fN_lt HOK.out hk
         have h2:=zg7 (zb5 G).r4 (4*G.n)
         unfold nF at h1;omega
        have f0:0≤(f:Int):=by omega
        have f4:(f:Int)<4:=by omega
        have hXl:=hSP.lt
        have HK:=Hd6 hSP hB hmap hCe hy hne
        clear hSP hB hmap hCe hy hne
        by_cases hq:y=C
        ·have hqq:=zd0 hq
         have HQ:=Lib.hid hq
         clear hq
         have qC:IntKind.i64.wrap ((C:Int)+1)=((C+1:Nat):Int):=by rw[IntWalk.i64_in _ (by omega)];rfl
         go_wp2_with (refine zg3 (a:=(t,f)) (c:=y) rfl 78 (.tmp 60) (.tmp 63) (.tmp 64) rfl codes83 und78 HK.out.2.2.1 ⟨by show t<_;omega,by show f<_;omega⟩ rfl rfl rfl ?_;intro W7 m1 m2 m3;have c87:=m2.cell c8 (by have:=HK.out.2.2.2.2.2.1;simpa using this);have f87:=(m2.frozen_far ⟨X,8,none⟩ hXl (by have:=HK.out.2.2.2.2.2.1;simpa using this)).trans f8;have H7:=Hd3 m1 m2 m3;clear m1 m2 m3)
         go_roundw
         case rel=>
          obtain⟨hSP,hB,hmap,hCe,hy,hne⟩:=HK.out
          have hfc:fN G (4*t+f)=cnt (zb5 G).r4 (4*t+f):=by rw[←hy,←hCe];exact HQ.out
          have h:=SP.enter HOK.out hf4 hk hSP hfc (by have:=H7.out.1;rw[hy] at this;exact this) H7.out.2.1
          rw[←hCe] at h
          refine⟨f+1,by omega,rfl,h,?_⟩
          exact (hB.grown H7.out.2.1 hB.size (fun k hk=>by cases hk;exact hSP.lo.2)).setCell hSP.lo.1 _
         case measure=>simp[intOf];omega
        ·have hqq:=zc4 hq
         have HQ:=Lib.hid hq
         clear hq
         go_wp2
         go_roundw
         case rel=>
          obtain⟨hSP,hB,hmap,hCe,hy,hne⟩:=HK.out
          exact⟨f+1,by omega,rfl,hSP.skip HOK.out hk (by rw[←hy,←hCe];exact HQ.out),hB⟩
         case measure=>simp[intOf];omega
       ·obtain rfl:f=4:=by omega
        have HK:=Hd2 hSP hB;clear hSP hB
        go_wp2
        go_roundw
        case rel=>exact⟨t+1,by omega,rfl,HK.out.1,HK.out.2⟩
        case measure=>simp[intOf];omega
     ·obtain rfl:t=G.n:=by omega
      have HK:=Hd2 hSP hB;clear hSP hB
      go_wp2
      go_ret2
      exact⟨HK.out.2,.inr (.inr ⟨HOK.out,HA.out,X,M,_,_,_,_,dB,rB,rfl,HK.out.1⟩)⟩
end
section
open Go.RowKit Go.Shelf Go.Maps
def LLs (B:Nat)(W:World)(v:Value)(n:Nat)(len:Nat→Nat)(f:Nat→Nat→Int):Prop:=
 ∃a b off cap,v=.slice a n cap∧(0<n→a=some ⟨b,off,none⟩∧b<B)∧∀k,k<n→∃rv,W.cell? ⟨b,off+k,none⟩=some rv∧SI B W rv (len k) (f k)
theorem LLs.below {B:Nat}{W W':World}{v:Value}{n:Nat}{len:Nat→Nat}{f:Nat→Nat→Int}(h:LLs B W v n len f)(hb:Below B W W'):LLs B W' v n len f:=by
 obtain⟨a,b,off,cap,rfl,h1,h2⟩:=h
 refine⟨a,b,off,cap,rfl,h1,fun k hk=>?_⟩
 obtain⟨rv,h3,h4⟩:=h2 k hk
 exact⟨rv,(hb.cell (p:=⟨b,off+k,none⟩) (h1 (by omega)).2).trans h3,h4.below hb⟩
theorem LLs.mono {B B':Nat}{W:World}{v:Value}{n:Nat}{len:Nat→Nat}{f:Nat→Nat→Int}(h:LLs B W v n len f)(hB:B≤B'):LLs B' W v n len f:=by
 obtain⟨a,b,off,cap,rfl,h1,h2⟩:=h
 refine⟨a,b,off,cap,rfl,fun k=>⟨(h1 k).1,by have:=(h1 k).2;omega⟩,fun k hk=>?_⟩
 obtain⟨rv,h3,h4⟩:=h2 k hk
 exact⟨rv,h3,h4.mono hB⟩
structure CV (W:World)(B Cv B' X mb:Nat)(v pv bv:Value)(G:Gl)(vv ev tv lv:Value)(dB rB sh:Nat)(f g:Nat→Nat→Int):Prop where
 c0:W.cell? ⟨Cv,0,none⟩=some (.pointer (some ⟨X,0,none⟩))
 c1:W.cell? ⟨Cv,1,none⟩=some (.int .i64 (sh:Int))
 c2:W.cell? ⟨Cv,2,none⟩=some pv
 c3:W.cell? ⟨Cv,3,none⟩=some bv
 sp:SP W B' X mb v G (4*G.n) vv ev tv lv dB rB
 pl:LLs B W pv (nF G) (fun _=>sh) f
 bl:LLs B W bv (nF G) (fun _=>sh) g
theorem CV.below {W W':World}{B Cv B' X mb:Nat}{v pv bv:Value}{G:Gl}{vv ev tv lv:Value}{dB rB sh:Nat}{f g:Nat→Nat→Int}(hB:B≤W.heap.size)(h:CV W B Cv B' X mb v pv bv G vv ev tv lv dB rB sh f g)(hb:Below W.heap.size W W'):CV W' B Cv B' X mb v pv bv G vv ev tv lv dB rB sh f g:=by
 have hg:=za6 hb (Nat.le_refl _) none
 exact⟨hg.cell h.c0 (by simp),hg.cell h.c1 (by simp),hg.cell h.c2 (by simp),hg.cell h.c3 (by simp),h.sp.below hb,h.pl.below (hb.mono hB),h.bl.below (hb.mono hB)⟩
def crF (G:Gl)(f g:Nat→Nat→Int)(t fc i:Nat):Int:=if (fD G (4*G.n) (t,fc)).isSome then f (fN G (4*t+fc)) i else g (fN G (4*t+fc)) i
theorem cross_walk {G:Gl}(hok:za9 G=true){w:World}{B Cv B' X mb:Nat}{v pv bv:Value}{vv ev tv lv:Value}{dB rB sh:Nat}{f g:Nat→Nat→Int}(h:CV w B Cv B' X mb v pv bv G vv ev tv lv dB rB sh f g)(t fc i:Nat)(ht:t<G.n)(hf:fc<4)(hi:i<sh) :
  Calls Try.prog 56 #[.pointer (some ⟨Cv,0,none⟩),.int .i64 (t:Int),.int .i64 (fc:Int),.int .i64 (i:Int)] w fun e w'=>e=.returned (.int .i64 (crF G f g t fc i))∧Below w.heap.size w w':=by
 have hn:G.n≤1000:=by simp only[za9,Bool.and_eq_true,decide_eq_true_eq] at hok;exact hok.1
 have hk:=fN_lt hok (show 4*t+fc<4*G.n by omega)
 obtain⟨gt,ct,htv,_,_⟩:=h.sp.twn.form (by omega)
 subst htv
 have hrow:w.cell? ⟨gt,t*4+fc,none⟩=some (.int .i64 (fN G (4*t+fc):Nat)):=by
  have:=h.sp.twn.cells (g:=gt) rfl (4*t+fc) _ (ints_get (fN G) (4*G.n) (4*t+fc) (by omega))
  rw[Addr.add_mid,Nat.zero_add] at this
  rw[show t*4+fc=4*t+fc by omega];exact this
 obtain⟨nn,hmap⟩:=h.sp.map
 have hlk:=hmap.look codes83 und78 (zero3 _) true (t,fc) ⟨by show t<_;omega,by show fc<_;omega⟩
 simp only[if_true] at hlk
 obtain⟨pa,pb,po,pc,rfl,hp1,hp2⟩:=h.pl
 obtain⟨rfl,hpB⟩:=hp1 (by omega)
 obtain⟨prv,hp3,hp4⟩:=hp2 _ hk
 obtain⟨pra,prb,pro,prc,rfl,hpr1,hpr2⟩:=hp4
 obtain⟨rfl,_⟩:=hpr1 (by show 0<sh;omega)
 have hpx:=hpr2 i hi
 obtain⟨ba,bb,bo,bc,rfl,hb1,hb2⟩:=h.bl
 obtain⟨rfl,hbB⟩:=hb1 (by omega)
 obtain⟨brv,hb3,hb4⟩:=hb2 _ hk
 obtain⟨bra,brb,bro,brc,rfl,hbr1,hbr2⟩:=hb4
 obtain⟨rfl,_⟩:=hbr1 (by show 0<sh;omega)
 have hbx:=hbr2 i hi
 have x0:=h.c0
 have x2:=h.c2
 have x3:=h.c3
 have s3:=h.sp.c3
 have s7:=h.sp.c7
 obtain⟨r,hr⟩:∃r,r=crF G f g t fc i:=⟨_,rfl⟩
 unfold crF at hr
 obtain⟨k,hke⟩:∃k,k=fN G (4*t+fc):=⟨_,rfl⟩
 rw[←hke] at hrow hk hp3 hb3 hpx hbx hr
 have hlk2:(Instr.lookup 78 (.map (some mb)) (.agg #[.int .i64 (t:Int),.int .i64 (fc:Int)]) true).run Try.prog w=.ok (.tuple #[(fD G (4*G.n) (t,fc)).elim (.int .i64 0) vi,.bool (fD G (4*G.n) (t,fc)).isSome]) w:=hlk
 have hres:=Lib.hid (show r=crF G f g t fc i by rw[hr];unfold crF;rw[hke])
 generalize hD:fD G (4*G.n) (t,fc)=Dv at *
 generalize nF G=nf at *
 generalize f k i=fx at *
 generalize g k i=gx at *
 have t0:0≤(t:Int):=by omega
 have tn:(t:Int)<(G.n:Int):=by omega
 have c0:0≤(fc:Int):=by omega
 have c4:(fc:Int)<4:=by omega
 have k0:0≤(k:Int):=by omega
 have kn:(k:Int)<(nf:Int):=by omega
 have i0:0≤(i:Int):=by omega
 have is:(i:Int)<(sh:Int):=by omega
 clear hp1 hp2 hpr1 hpr2 hb1 hb2 hbr1 hbr2 hlk hmap h hke hD
 cases Dv with
 | none=>
  simp only[Option.isSome_none,Bool.false_eq_true,if_false] at hr
  simp only[Option.elim,Option.isSome_none] at hlk2
  subst hr
  go_enter Try.func56,Try.ntmps56
  go_wp2
  go_ret
  exact⟨by rw[←hres.out];rfl,Below.refl _ _⟩
 | some z=>
  simp only[Option.isSome_some,if_true] at hr
  simp only[Option.elim,Option.isSome_some] at hlk2
  subst hr
  go_enter Try.func56,Try.ntmps56
  go_wp2
  go_ret
  exact⟨by rw[←hres.out];rfl,Below.refl _ _⟩
end
section
open Go.RowKit Go.Shelf
def sameB (n:Nat)(f:Nat→Int)(m:Nat)(g:Nat→Int):Bool:=n==m && (List.range n).all (fun i=>f i==g i)
theorem all_range_false {p:Nat→Bool}{n k:Nat}(hk:k<n)(h:p k=false):(List.range n).all p=false:=by
 cases hq:(List.range n).all p with
 | false=>rfl
 | true=>
  have:=List.all_eq_true.1 hq k (List.mem_range.2 hk)
  rw[h] at this;cases this
theorem SameInts_walk (n m:Nat)(f g:Nat→Int)(hn:n<4611686018427387904)(B:Nat)(w:World)(v u:Value)(hv:SI B w v n f)(hu:SI B w u m g) :
  Calls Try.prog 31 #[v,u] w fun e w'=>e=.returned (.bool (sameB n f m g))∧Below w.heap.size w w':=by
 obtain⟨a,b,off,cap,rfl,ha,hc⟩:=hv
 obtain⟨a',b',off',cap',rfl,ha',hc'⟩:=hu
 have HC:=Hd4 ha hc ha' hc';clear ha hc ha' hc'
 by_cases hnm:n=m
 ·subst hnm
  have hbe:=zd0 (rfl:n=n)
  go_enter Try.func31,Try.ntmps31
  go_wp2
  go_loopw [5] (fun i wr=>∃k:Nat,k≤n∧i=.int .i64 k∧(List.range k).all (fun i=>f i==g i)=true∧Below w.heap.size w wr∧(∀p:Addr,wr.cell? p=w.cell? p)) (fun i _=>n-(intOf i).toNat)
  case atStart=>exact⟨0,by omega,rfl,rfl,Below.refl _ _,fun _=>rfl⟩
  case round=>
   obtain⟨k,hk,rfl,hall,hb,hcell⟩:=hrel
   have HK:=Hd3 hall hb hcell
   rcases Nat.lt_or_ge k n with hkn | hkn
   ·obtain⟨ha,hc,ha',hc'⟩:=HC.out
    obtain⟨rfl,_⟩:=ha (by omega)
    obtain⟨rfl,_⟩:=ha' (by omega)
    have x:=(hcell ⟨b,off+k,none⟩).trans (hc k hkn)
    have y:=(hcell ⟨b',off'+k,none⟩).trans (hc' k hkn)
    have k0:0≤(k:Int):=by omega
    have kn:(k:Int)<(n:Int):=by omega
    clear hall hb hcell ha hc ha' hc'
    obtain⟨X,hX⟩:∃X,X=f k:=⟨_,rfl⟩
    obtain⟨Y,hY⟩:∃Y,Y=g k:=⟨_,rfl⟩
    rw[←hX] at x
    rw[←hY] at y
    have HXY:=Hd2 hX hY;clear hX hY
    by_cases hq:X=Y
    ·subst hq
     go_wp2
     go_still (by kernel_rfl)
     go_wp2
     go_roundw
     case rel=>
      refine⟨k+1,by omega,rfl,?_,za5 HK.out.2.1,fun p=>HK.out.2.2 p⟩
      rw[List.range_succ,List.all_append,HK.out.1]
      simp[←HXY.out.1,←HXY.out.2]
     case measure=>simp[intOf];omega
    ·have hqq:(X !=Y)=true:=by simpa using hq
     have HQ:=Lib.hid hq;clear hq
     go_wp2
     go_still (by kernel_rfl)
     go_wp2
     go_ret
     refine⟨?_,za5 HK.out.2.1⟩
     rw[sameB,all_range_false hkn (by rw[←HXY.out.1,←HXY.out.2];simpa using HQ.out),Bool.and_false]
     rfl
   ·obtain rfl:k=n:=by omega
    clear hall hb hcell
    go_wp2
    go_ret
    refine⟨?_,HK.out.2.1⟩
    rw[sameB,HK.out.1]
    simp
 ·have hbe:((n:Int) !=(m:Int))=true:=by simp;omega
  have HN:=Lib.hid hnm;clear hnm
  go_enter Try.func31,Try.ntmps31
  go_wp2
  go_ret
  refine⟨?_,Below.refl _ _⟩
  have:(n==m)=false:=by simpa using HN.out
  rw[sameB,this,Bool.false_and]
  rfl
end
section
open Go.RowKit Go.Shelf
theorem und26:Try.prog.underlying 26=some (.slice 35):=by kernel_rfl
theorem info35:(Try.prog.info? 35).map (fun i=>(i.zero,i.size,i.bytes))=some (some (.slice none 0 0),1,24):=by kernel_rfl
structure CI (W:World)(K:Nat)(v:Value)(k:Nat)(xs:List Value)(len:Nat→Nat)(f:Nat→Nat→Int):Prop where
 own:W.ownsRow K 35 1 v k xs
 row:∀j,j<k→∃a d cap,xs[j]?=some (.slice a (len j) cap)∧(0<len j→a=some ⟨d,0,none⟩∧K≤d∧d<W.heap.size∧v.ownBlock≠some d)∧∀i,i<len j→W.cell? ⟨d,i,none⟩=some (.int .i64 (f j i))
theorem CI.push {W W2 w2:World}{K:Nat}{v:Value}{k:Nat}{xs:List Value}{len:Nat→Nat}{f:Nat→Nat→Int}{a:Option Addr}{d cap g gc:Nat}(h:CI W K v k xs len f)(hg:W.grownBy W2 none)
  (hr:0<len k→a=some ⟨d,0,none⟩∧K≤d∧d<W2.heap.size∧W.heap.size≤d) (hc:∀i,i<len k→W2.cell? ⟨d,i,none⟩=some (.int .i64 (f k i)))
  (hown:w2.ownsRow K 35 1 (.slice (some ⟨g,0,none⟩) (k+1) gc) (k+1) (xs++[.slice a (len k) cap]))
  (hgrow:W2.grownBy w2 v.ownBlock) (hat:v.ownBlock=some g∨g=W2.heap.size):CI w2 K (.slice (some ⟨g,0,none⟩) (k+1) gc) (k+1) (xs++[.slice a (len k) cap]) len f:=by
 have hxl:=h.own.1
 have hob:∀j,v.ownBlock=some j→j<W.heap.size:=fun j hj=>(h.own.lt j hj).2
 refine⟨hown,fun j hj=>?_⟩
 by_cases e:j=k
 ·subst e
  refine⟨a,d,cap,by rw[List.getElem?_append_right (by omega),show j-xs.length=0 by omega];rfl,fun hp=>?_,fun i hi=>hgrow.cell (hc i hi) ?_⟩
  ·obtain⟨r1,r2,r3,r4⟩:=hr hp
   refine⟨r1,r2,Nat.lt_of_lt_of_le r3 hgrow.size,?_⟩
   simp only[Value.ownBlock,ne_eq,Option.some.injEq]
   intro q
   rcases hat with z | z
   ·subst q;have:=hob _ z;omega
   ·omega
  ·intro q
   have:=(hr (by omega)).2.2.2
   have:=hob _ q.symm
   simp only at this;omega
 ·obtain⟨a',d',cap',e1,h3,h4⟩:=h.row j (by omega)
  refine⟨a',d',cap',by rw[List.getElem?_append_left (by omega)];exact e1,fun hp=>?_,fun i hi=>hgrow.cell (hg.cell (h4 i hi) (by simp)) (fun q=>(h3 (by omega)).2.2.2 q.symm)⟩
  obtain⟨r1,r2,r3,r4⟩:=h3 hp
  refine⟨r1,r2,Nat.lt_of_lt_of_le (Nat.lt_of_lt_of_le r3 hg.size) hgrow.size,?_⟩
  simp only[Value.ownBlock,ne_eq,Option.some.injEq]
  intro q
  rcases hat with z | z
  ·subst q;exact r4 z
  ·have:=hg.size;omega
theorem CI.LLs {W:World}{K:Nat}{v:Value}{k:Nat}{xs:List Value}{len:Nat→Nat}{f:Nat→Nat→Int}(h:CI W K v k xs len f):LLs W.heap.size W v k len f:=by
 have row:∀j,j<k→∃rv,xs[j]?=some rv∧SI W.heap.size W rv (len j) (f j):=fun j hj=>by
  obtain⟨a,d,cap,e,h3,h4⟩:=h.row j hj
  exact⟨_,e,a,d,0,cap,rfl,fun hp=>⟨(h3 hp).1,(h3 hp).2.2.1⟩,fun i hi=>by rw[Nat.zero_add];exact h4 i hi⟩
 rcases h.own.2 with ⟨rfl,rfl⟩ | ⟨g,cap,cur,rfl,_,hgg,_⟩
 ·exact⟨none,0,0,0,rfl,fun h=>by omega,fun j hj=>by omega⟩
 ·refine⟨_,g,0,cap,rfl,fun _=>⟨rfl,(Array.getElem?_eq_some_iff.1 hgg).1⟩,fun j hj=>?_⟩
  obtain⟨rv,e,hs⟩:=row j hj
  refine⟨rv,?_,hs⟩
  have:=h.own.cells (g:=g) rfl j rv e
  rwa [Addr.add_mid] at this
def nums (f:Nat→Int)(n:Nat):List Value:=(List.range n).map fun i=>.int .i64 (f i)
end
section
open Go.RowKit Go.Shelf Go.Maps
def Kb (D:Nat)(W W':World):Prop:=W.heap.size≤W'.heap.size∧∀b,b<W.heap.size→b≠D→W'.heap[b]?=W.heap[b]?
theorem Kb.grown {D:Nat}{W W1 W2:World}{row:Option Nat}(h:Kb D W W1)(hg:W1.grownBy W2 row)(hr:∀k,row=some k→k=D∨W.heap.size≤k):Kb D W W2:=
 ⟨Nat.le_trans h.1 hg.size,fun b hb hd=>(hg.block b (Nat.lt_of_lt_of_le hb h.1) (fun e=>by rcases hr b e.symm with q | q<;>omega)).trans (h.2 b hb hd)⟩
theorem Kb.row {D:Nat}{W W':World}{b:Nat}{t n:Nat}{f:Nat→Value}(h:Kb D W W')(hr:W.rowIs b t n f)(hd:b≠D):W'.rowIs b t n f:=by
 obtain⟨c,h1,h2,h3⟩:=hr
 exact⟨c,(h.2 b (Array.getElem?_eq_some_iff.1 h1).1 hd).trans h1,h2,h3⟩
theorem SK.far {W W':World}{K S dB rB sz:Nat}{q:Nat→Value}{c:Nat→Nat}{xs:Nat→List Value}{rev:Nat→Bool}(h:SK W K S dB rB sz q c xs rev){A:Nat}(hg:W.grownBy W' (some A))(h1:A≠S)(h2:A≠dB)(h3:A≠rB)(h4:∀o,okO o→(q o).ownBlock≠some A):SK W' K S dB rB sz q c xs rev:=by
 have hS:=za0 h.c3
 have eS:some S≠some A:=fun e=>h1 (Option.some.inj e).symm
 exact⟨fun o ho=>hg.cell (h.cc o ho) eS,hg.cell h.c3 eS,hg.cell h.c4 eS,fun o=>(hg.frozen_far ⟨S,o,none⟩ hS eS).trans (h.fz o),
  fun o ho=>(h.own o ho).kept hg (.inr (h4 o ho)),by obtain⟨g,hr⟩:=h.dr;exact⟨g,za3 hr hg (fun e=>h2 (Option.some.inj e).symm)⟩,za3 h.rr hg (fun e=>h3 (Option.some.inj e).symm),h.ne,h.lo⟩
theorem SK.start {W:World}{S dB rB sz:Nat}(h0:∀o,okO o→W.cell? ⟨S,o,none⟩=some (.slice none 0 0))(h3:W.cell? ⟨S,3,none⟩=some (.slice (some ⟨dB,0,none⟩) sz sz))(h4:W.cell? ⟨S,4,none⟩=some (.slice (some ⟨rB,0,none⟩) sz sz))
  (hf:∀o,W.frozen? ⟨S,o,none⟩=false) (hd:W.rowIs dB 3 sz (fun _=>.int .i64 0)) (hr:W.rowIs rB 4 sz (fun _=>.bool false)) (lo:S≠dB∧S≠rB∧dB≠rB):SK W 0 S dB rB sz q0 (fun _=>0) (fun _=>[]) (fun _=>false):=
 ⟨h0,h3,h4,hf,fun o _=>World.ownsRow_nil _ _ _ _,⟨fun _=>0,hd⟩,hr,fun o _ k hk=>by simp[q0,Value.ownBlock] at hk,⟨Nat.zero_le _,Nat.zero_le _,Nat.zero_le _,lo⟩⟩
structure RK (w W6 wr:World)(N S dB rB sz:Nat)(q:Nat→Value)(c:Nat→Nat)(xs:Nat→List Value)(rev:Nat→Bool):Prop where
 sk:SK wr 0 S dB rB sz q c xs rev
 hi:∀o,okO o→∀k,(q o).ownBlock=some k→W6.heap.size≤k
 kp:Kb S W6 wr
 lo:N≤S∧S<W6.heap.size∧W6.heap.size≤dB∧W6.heap.size≤rB
 bel:Below N w wr
section
variable {w W6 wr W1 w1 W':World}{N S dB rB sz:Nat}{q:Nat→Value}{c:Nat→Nat}{xs:Nat→List Value}{rev:Nat→Bool}
theorem RK.kept (h:RK w W6 wr N S dB rB sz q c xs rev)(hg:wr.grownBy W' none):RK w W6 W' N S dB rB sz q c xs rev:=
 ⟨h.sk.kept hg,h.hi,h.kp.grown hg (fun k e=>by cases e),h.lo,h.bel.grown hg (by have:=h.kp.1;have:=h.lo;omega) (fun k e=>by cases e)⟩
theorem RK.push (h:RK w W6 wr N S dB rB sz q c xs rev){o m:Nat}(ho:okO o)(hm:m=c o+1){ys:List Value}(hga:wr.grownBy W1 none){g cap:Nat}(hown:w1.ownsRow 0 (tyO o) (szO o) (.slice (some ⟨g,0,none⟩) m cap) m ys)
  (hgrow:W1.grownBy w1 (q o).ownBlock) (hat:(q o).ownBlock=some g∨g=W1.heap.size) :
  RK w W6 (w1.setCell ⟨S,o,none⟩ (.slice (some ⟨g,0,none⟩) m cap)) N S dB rB sz (updO q o (.slice (some ⟨g,0,none⟩) m cap)) (updO c o m) (updO xs o ys) rev:=by
 have hk:=h.kept hga
 have hlo:=h.lo
 have hk1:=h.kp.1
 have hs1:=hga.size
 refine⟨h.sk.push ho hm hga hown hgrow hat,fun i hi k hki=>?_,(hk.kp.grown hgrow (fun k e=>.inr (h.hi o ho k e))).grown (za1 _ _ _ _) (fun k e=>.inl (by cases e;rfl)),h.lo,?_⟩
 ·by_cases e:i=o
  ·subst e
   rw[updO_same] at hki
   simp[Value.ownBlock] at hki
   subst hki
   rcases hat with q | q
   ·exact h.hi i ho g q
   ·omega
  ·rw[updO_other _ _ _ _ e] at hki
   exact h.hi i hi k hki
 ·exact (hk.bel.grown hgrow (by omega) (fun k e=>by have:=h.hi o ho k e;omega)).setCell (by show N≤S;omega) _
theorem RK.degree (h:RK w W6 wr N S dB rB sz q c xs rev)(i:Nat)(x:Int):RK w W6 (wr.setCell ⟨dB,i,none⟩ (.int .i64 x)) N S dB rB sz q c xs rev:=
 ⟨h.sk.degree i x,h.hi,h.kp.grown (za1 _ _ _ _) (fun k e=>.inr (by cases e;exact h.lo.2.2.1)),h.lo,h.bel.setCell (by show N≤dB;have:=h.lo;omega) _⟩
theorem RK.reverse (h:RK w W6 wr N S dB rB sz q c xs rev)(i:Nat):RK w W6 (wr.setCell ⟨rB,i,none⟩ (.bool true)) N S dB rB sz q c xs (fun j=>if j=i then true else rev j):=
 ⟨h.sk.reverse i,h.hi,h.kp.grown (za1 _ _ _ _) (fun k e=>.inr (by cases e;exact h.lo.2.2.2)),h.lo,h.bel.setCell (by show N≤rB;have:=h.lo;omega) _⟩
theorem RK.congr {c':Nat→Nat}{xs':Nat→List Value}{rev':Nat→Bool}(h:RK w W6 wr N S dB rB sz q c xs rev)(h1:∀o,okO o→c o=c' o)(h2:∀o,okO o→xs o=xs' o)(h3:∀i,rev i=rev' i):RK w W6 wr N S dB rB sz q c' xs' rev':=
 ⟨h.sk.congr h1 h2 h3,h.hi,h.kp,h.lo,h.bel⟩
theorem RK.far (h:RK w W6 wr N S dB rB sz q c xs rev){A:Nat}(hg:wr.grownBy W' (some A))(h0:W6.heap.size≤A)(h1:A≠S)(h2:A≠dB)(h3:A≠rB)(h4:∀o,okO o→(q o).ownBlock≠some A):RK w W6 W' N S dB rB sz q c xs rev:=
 ⟨h.sk.far hg h1 h2 h3 h4,h.hi,h.kp.grown hg (fun k e=>.inr (by cases e;exact h0)),h.lo,h.bel.grown hg (by have:=h.kp.1;have:=h.lo;omega) (fun k e=>by cases e;have:=h.lo;omega)⟩
structure RA (w W6 wr:World)(N S dB rB sz:Nat)(q:Nat→Value)(c:Nat→Nat)(xs:Nat→List Value)(rev:Nat→Bool)(A1 A2 A3:Nat)(f1 f2 f3:Nat→Value):Prop where
 rk:RK w W6 wr N S dB rB sz q c xs rev
 a1:wr.rowIs A1 84 4 f1
 a2:wr.rowIs A2 84 4 f2
 a3:wr.rowIs A3 162 6 f3
 ne:A1≠A2∧A1≠A3∧A2≠A3
 far:∀A,A=A1∨A=A2∨A=A3→W6.heap.size≤A∧A≠S∧A≠dB∧A≠rB∧∀o,okO o→(q o).ownBlock≠some A
variable {A1 A2 A3:Nat}{f1 f2 f3:Nat→Value}
theorem RA.kept (h:RA w W6 wr N S dB rB sz q c xs rev A1 A2 A3 f1 f2 f3)(hg:wr.grownBy W' none):RA w W6 W' N S dB rB sz q c xs rev A1 A2 A3 f1 f2 f3:=
 ⟨h.rk.kept hg,za3 h.a1 hg (by simp),za3 h.a2 hg (by simp),za3 h.a3 hg (by simp),h.ne,h.far⟩
theorem RA.set1 (h:RA w W6 wr N S dB rB sz q c xs rev A1 A2 A3 f1 f2 f3)(i:Nat)(v:Value):RA w W6 (wr.setCell ⟨A1,i,none⟩ v) N S dB rB sz q c xs rev A1 A2 A3 (fun j=>if j=i then v else f1 j) f2 f3:=by
 have hf:=h.far A1 (.inl rfl)
 have hg:=za1 wr A1 i v
 exact⟨h.rk.far hg hf.1 hf.2.1 hf.2.2.1 hf.2.2.2.1 hf.2.2.2.2,h.a1.set i v,za3 h.a2 hg (fun e=>h.ne.1 (Option.some.inj e).symm),za3 h.a3 hg (fun e=>h.ne.2.1 (Option.some.inj e).symm),h.ne,h.far⟩
theorem RA.set2 (h:RA w W6 wr N S dB rB sz q c xs rev A1 A2 A3 f1 f2 f3)(i:Nat)(v:Value):RA w W6 (wr.setCell ⟨A2,i,none⟩ v) N S dB rB sz q c xs rev A1 A2 A3 f1 (fun j=>if j=i then v else f2 j) f3:=by
 have hf:=h.far A2 (.inr (.inl rfl))
 have hg:=za1 wr A2 i v
 exact⟨h.rk.far hg hf.1 hf.2.1 hf.2.2.1 hf.2.2.2.1 hf.2.2.2.2,za3 h.a1 hg (fun e=>h.ne.1 (Option.some.inj e)),h.a2.set i v,za3 h.a3 hg (fun e=>h.ne.2.2 (Option.some.inj e).symm),h.ne,h.far⟩
theorem RA.set3 (h:RA w W6 wr N S dB rB sz q c xs rev A1 A2 A3 f1 f2 f3)(i:Nat)(v:Value):RA w W6 (wr.setCell ⟨A3,i,none⟩ v) N S dB rB sz q c xs rev A1 A2 A3 f1 f2 (fun j=>if j=i then v else f3 j):=by
 have hf:=h.far A3 (.inr (.inr rfl))
 have hg:=za1 wr A3 i v
 exact⟨h.rk.far hg hf.1 hf.2.1 hf.2.2.1 hf.2.2.2.1 hf.2.2.2.2,za3 h.a1 hg (fun e=>h.ne.2.1 (Option.some.inj e)),za3 h.a2 hg (fun e=>h.ne.2.2 (Option.some.inj e)),h.a3.set i v,h.ne,h.far⟩
theorem RA.degree (h:RA w W6 wr N S dB rB sz q c xs rev A1 A2 A3 f1 f2 f3)(i:Nat)(x:Int):RA w W6 (wr.setCell ⟨dB,i,none⟩ (.int .i64 x)) N S dB rB sz q c xs rev A1 A2 A3 f1 f2 f3:=by
 have hg:=za1 wr dB i (.int .i64 x)
 exact⟨h.rk.degree i x,za3 h.a1 hg (fun e=>(h.far A1 (.inl rfl)).2.2.1 (Option.some.inj e)),za3 h.a2 hg (fun e=>(h.far A2 (.inr (.inl rfl))).2.2.1 (Option.some.inj e)),za3 h.a3 hg (fun e=>(h.far A3 (.inr (.inr rfl))).2.2.1 (Option.some.inj e)),h.ne,h.far⟩
theorem RA.reverse (h:RA w W6 wr N S dB rB sz q c xs rev A1 A2 A3 f1 f2 f3)(i:Nat):RA w W6 (wr.setCell ⟨rB,i,none⟩ (.bool true)) N S dB rB sz q c xs (fun j=>if j=i then true else rev j) A1 A2 A3 f1 f2 f3:=by
 have hg:=za1 wr rB i (.bool true)
 exact⟨h.rk.reverse i,za3 h.a1 hg (fun e=>(h.far A1 (.inl rfl)).2.2.2.1 (Option.some.inj e)),za3 h.a2 hg (fun e=>(h.far A2 (.inr (.inl rfl))).2.2.2.1 (Option.some.inj e)),za3 h.a3 hg (fun e=>(h.far A3 (.inr (.inr rfl))).2.2.2.1 (Option.some.inj e)),h.ne,h.far⟩
theorem RA.congr {c':Nat→Nat}{xs':Nat→List Value}{rev':Nat→Bool}{g1 g2 g3:Nat→Value}(h:RA w W6 wr N S dB rB sz q c xs rev A1 A2 A3 f1 f2 f3)(h1:∀o,okO o→c o=c' o)(h2:∀o,okO o→xs o=xs' o)(h3:∀i,rev i=rev' i)(k1:∀i,i<4→f1 i=g1 i)(k2:∀i,i<4→f2 i=g2 i)(k3:∀i,i<6→f3 i=g3 i):RA w W6 wr N S dB rB sz q c' xs' rev' A1 A2 A3 g1 g2 g3:=
 ⟨h.rk.congr h1 h2 h3,h.a1.congr k1,h.a2.congr k2,h.a3.congr k3,h.ne,h.far⟩
theorem RA.push (h:RA w W6 wr N S dB rB sz q c xs rev A1 A2 A3 f1 f2 f3){o m:Nat}(ho:okO o)(hm:m=c o+1){ys:List Value}(hga:wr.grownBy W1 none){g cap:Nat}(hown:w1.ownsRow 0 (tyO o) (szO o) (.slice (some ⟨g,0,none⟩) m cap) m ys)
  (hgrow:W1.grownBy w1 (q o).ownBlock) (hat:(q o).ownBlock=some g∨g=W1.heap.size) :
  RA w W6 (w1.setCell ⟨S,o,none⟩ (.slice (some ⟨g,0,none⟩) m cap)) N S dB rB sz (updO q o (.slice (some ⟨g,0,none⟩) m cap)) (updO c o m) (updO xs o ys) rev A1 A2 A3 f1 f2 f3:=by
 have hk:=h.kept hga
 have row:∀A t n f,(A=A1∨A=A2∨A=A3)→W1.rowIs A t n f→(w1.setCell ⟨S,o,none⟩ (.slice (some ⟨g,0,none⟩) m cap)).rowIs A t n f:=fun A t n f hA hr=>
  za3 (za3 hr hgrow (fun e=>(h.far A hA).2.2.2.2 o ho e.symm)) (za1 _ _ _ _) (fun e=>(h.far A hA).2.1 (Option.some.inj e))
 refine⟨h.rk.push ho hm hga hown hgrow hat,row _ _ _ _ (.inl rfl) hk.a1,row _ _ _ _ (.inr (.inl rfl)) hk.a2,row _ _ _ _ (.inr (.inr rfl)) hk.a3,h.ne,fun A hA=>?_⟩
 obtain⟨r1,r2,r3,r4,r5⟩:=h.far A hA
 have hlt:A<wr.heap.size:=by
  rcases hA with e | e | e
  ·rw[e];exact h.a1.lt
  ·rw[e];exact h.a2.lt
  ·rw[e];exact h.a3.lt
 refine⟨r1,r2,r3,r4,fun i hi e=>?_⟩
 by_cases eo:i=o
 ·subst eo
  rw[updO_same] at e
  simp[Value.ownBlock] at e
  subst e
  rcases hat with z | z
  ·exact r5 i ho z
  ·have:=hga.size;omega
 ·rw[updO_other _ _ _ _ eo] at e
  exact r5 i hi e
theorem RA.fresh (h:RK w W6 wr N S dB rB sz q c xs rev):RA w W6 (((wr.alloc (.cells #[.int .i64 0,.int .i64 0,.int .i64 0,.int .i64 0] 84)).alloc (.cells #[.int .i64 0,.int .i64 0,.int .i64 0,.int .i64 0] 84)).alloc (.cells #[.int .i64 0,.int .i64 0,.int .i64 0,.int .i64 0,.int .i64 0,.int .i64 0] 162)) N S dB rB sz q c xs rev wr.heap.size (wr.heap.size+1) (wr.heap.size+1+1) (fun _=>.int .i64 0) (fun _=>.int .i64 0) (fun _=>.int .i64 0):=by
 have z4:∀i,i<4→(#[.int .i64 0,.int .i64 0,.int .i64 0,.int .i64 0]:Array Value)[i]?=some (.int .i64 0):=fun i hi=>by
  match i,hi with
  | 0,_=>rfl
  | 1,_=>rfl
  | 2,_=>rfl
  | 3,_=>rfl
 have z6:∀i,i<6→(#[.int .i64 0,.int .i64 0,.int .i64 0,.int .i64 0,.int .i64 0,.int .i64 0]:Array Value)[i]?=some (.int .i64 0):=fun i hi=>by
  match i,hi with
  | 0,_=>rfl
  | 1,_=>rfl
  | 2,_=>rfl
  | 3,_=>rfl
  | 4,_=>rfl
  | 5,_=>rfl
 have g:=fun (W:World) (o:Obj)=>World.grownBy_alloc W o none
 have r1:=World.rowIs_alloc wr #[.int .i64 0,.int .i64 0,.int .i64 0,.int .i64 0] 84 _ z4
 have r2:=World.rowIs_alloc (wr.alloc (.cells #[.int .i64 0,.int .i64 0,.int .i64 0,.int .i64 0] 84)) #[.int .i64 0,.int .i64 0,.int .i64 0,.int .i64 0] 84 _ z4
 have r3:=World.rowIs_alloc ((wr.alloc (.cells #[.int .i64 0,.int .i64 0,.int .i64 0,.int .i64 0] 84)).alloc (.cells #[.int .i64 0,.int .i64 0,.int .i64 0,.int .i64 0] 84)) #[.int .i64 0,.int .i64 0,.int .i64 0,.int .i64 0,.int .i64 0,.int .i64 0] 162 _ z6
 rw[World.size_alloc] at r2
 rw[World.size_alloc,World.size_alloc] at r3
 have hS:=za0 h.sk.c3
 obtain⟨gd,hd⟩:=h.sk.dr
 have hdl:=hd.lt
 have hrl:=h.sk.rr.lt
 have hk:=h.kp.1
 simp only at hS
 refine⟨((h.kept (g _ _)).kept (g _ _)).kept (g _ _),za3 (za3 r1 (g _ _) (by simp)) (g _ _) (by simp),za3 r2 (g _ _) (by simp),r3,⟨by omega,by omega,by omega⟩,fun A hA=>?_⟩
 have hA2:wr.heap.size≤A:=by omega
 exact⟨by omega,by omega,by omega,by omega,fun o ho e=>by have:=((h.sk.own o ho).lt A e).2;omega⟩
end
end
section
open Go.RowKit Go.Shelf Go.Maps
theorem sameB_rf (n:Nat)(f:Nat→Int):sameB n f n f=true:=by unfold sameB;simp
theorem rsame_walk (s:Int)(n:Nat)(ln:Nat→Nat)(f:Nat→Nat→Int)(hn:n<4611686018427387904)(hl:∀k,k<n→ln k<4611686018427387904)(B:Nat)(w:World)(hB:B≤w.heap.size)(v u:Value)(hv:LLs B w v n ln f)(hu:LLs B w u n ln f) :
  Calls Try.prog 20 #[.agg #[.int .i64 s,v],.agg #[.int .i64 s,u]] w fun e w'=>e=.returned (.bool true)∧Below w.heap.size w w':=by
 obtain⟨a,b,off,cap,rfl,ha,hc⟩:=hv
 obtain⟨a',b',off',cap',rfl,ha',hc'⟩:=hu
 have HC:=Hd4 ha hc ha' hc';clear ha hc ha' hc'
 generalize hN:w.heap.size=N at *
 have q1:(s !=s)=false:=by simp
 have q2:((n:Int) !=(n:Int))=false:=by simp
 go_enter Try.func20,Try.ntmps20
 have hb0:∀o1 o2,Below w.heap.size w ((w.alloc o1).alloc o2):=fun o1 o2=>by (repeat' (first | assumption | exact Below.refl _ _ | refine za7 ?_ (by assumption) | refine zb2 ?_ _ | refine za5 ?_ | refine zb1 ?_ (by simp<;>omega) _))
 rw[hN] at hb0
 have HB0:=Lib.hid hb0
 clear hb0
 go_wp2
 refine zb3 fun W0 hW=>?_
 have h0:Below N w W0∧W0.cell? ⟨N,1,none⟩=some (.slice a n cap)∧W0.cell? ⟨N+1,1,none⟩=some (.slice a' n cap'):=by
  rw[hW];exact⟨HB0.out _ _,by subst hN;simp[go_sem],by subst hN;simp[go_sem]⟩
 clear hW HB0
 have H0:=Lib.hid h0
 clear h0
 go_loopw [23] (fun i wr=>∃k:Nat,k≤n∧i=.int .i64 k∧Below N w wr∧wr.cell? ⟨N,1,none⟩=some (.slice a n cap)∧wr.cell? ⟨N+1,1,none⟩=some (.slice a' n cap')) (fun i _=>n-(intOf i).toNat)
 case atStart=>exact⟨0,by omega,rfl,H0.out⟩
 case round=>
  clear H0
  obtain⟨k,hk,rfl,hb,y0,y1⟩:=hrel
  have HK:=Hd3 hb y0 y1
  rcases Nat.lt_or_ge k n with hkn | hkn
  ·obtain⟨ha,hc,ha',hc'⟩:=HC.out
   obtain⟨rfl,hbB⟩:=ha (by omega)
   obtain⟨rfl,hbB'⟩:=ha' (by omega)
   obtain⟨rv,x0,xs⟩:=hc k hkn
   obtain⟨ru,z0,zs⟩:=hc' k hkn
   have x:=(hb.cell (p:=⟨b,off+k,none⟩) (by show b<N;omega)).trans x0
   have z:=(hb.cell (p:=⟨b',off'+k,none⟩) (by show b'<N;omega)).trans z0
   have hbd:Below B w wr.drew:=za5 (hb.mono hB)
   have S31:=SameInts_walk (ln k) (ln k) (f k) (f k) (hl k hkn) B wr.drew rv ru (xs.below hbd) (zs.below hbd)
   rw[sameB_rf] at S31
   obtain⟨a1,b1,o1,c1,rfl,_,_⟩:=xs
   obtain⟨a2,b2,o2,c2,rfl,_,_⟩:=zs
   have k0:0≤(k:Int):=by omega
   have kn:(k:Int)<(n:Int):=by omega
   have HS:=Lib.hid S31
   have cells:∀W,Below wr.heap.size wr W→W.cell? ⟨N,1,none⟩=some (.slice (some ⟨b,off,none⟩) n cap)∧W.cell? ⟨N+1,1,none⟩=some (.slice (some ⟨b',off',none⟩) n cap')∧W.cell? ⟨b,off+k,none⟩=some (.slice a1 (ln k) c1)∧W.cell? ⟨b',off'+k,none⟩=some (.slice a2 (ln k) c2):=fun W h=>
    ⟨(h.cell (p:=⟨N,1,none⟩) (za0 y0)).trans y0,(h.cell (p:=⟨N+1,1,none⟩) (za0 y1)).trans y1,(h.cell (p:=⟨b,off+k,none⟩) (za0 x)).trans x,(h.cell (p:=⟨b',off'+k,none⟩) (za0 z)).trans z⟩
   have HCL:=Lib.hid cells
   obtain⟨y0,y1,x,z⟩:=cells wr.drew (by (repeat' (first | assumption | exact Below.refl _ _ | refine za7 ?_ (by assumption) | refine zb2 ?_ _ | refine za5 ?_ | refine zb1 ?_ (by simp<;>omega) _)))
   clear cells hb ha hc ha' hc' S31 x0 z0 hbd
   go_wp2
   go_region_held3 (fun w'=>w'.cell? ⟨N,1,none⟩=some (.slice (some ⟨b,off,none⟩) n cap)∧w'.cell? ⟨N+1,1,none⟩=some (.slice (some ⟨b',off',none⟩) n cap')∧w'.cell? ⟨b,off+k,none⟩=some (.slice a1 (ln k) c1)∧w'.cell? ⟨b',off'+k,none⟩=some (.slice a2 (ln k) c2))
    (exact HCL.out _ (by (repeat' (first | assumption | exact Below.refl _ _ | refine za7 ?_ (by assumption) | refine zb2 ?_ _ | refine za5 ?_ | refine zb1 ?_ (by simp<;>omega) _))))
    (first|(go_at_call 31;(with_reducible refine HS.out.mono ?_);rintro e w1 ⟨rfl,hb1⟩))
   have HB1:=Lib.hid ((za5 (Below.refl wr.heap.size wr)).trans (hb1:Below wr.heap.size wr.drew w1))
   clear hb1
   go_wp2
   go_roundw
   case rel=>exact⟨k+1,by omega,rfl,HK.out.1.trans (HB1.out.mono (by have:=HK.out.1.size;omega)),(HCL.out _ HB1.out).1,(HCL.out _ HB1.out).2.1⟩
   case measure=>simp[intOf];omega
  ·obtain rfl:k=n:=by omega
   clear hb
   go_wp2
   go_ret
   exact⟨rfl,HK.out.1⟩
end
end Go.Proofs.Ytlckpgahijlmoaa
