/- R02's Skeleton of a valid gluing: the very rows and reversed edges that the program finds. No condition. -/
import Derived.Test.YtlckpgahijlmoaaQ11
import Derived.Test.YtlckpgahijlmoaaQ20
import Derived.Test.YtlckpgahijlmoaaQ13
import Derived.Test.YtlckpgahijlmoaaQ23
import Derived.Test.YtlckpgahijlmoaaQ15
import Derived.Deep.CutRange
set_option maxRecDepth 100000
set_option maxHeartbeats 8000000
namespace Go.Proofs.Ytlckpgahijlmoaa
section
open Go.RowKit Go.Shelf
theorem zb7.below {B:Nat}{w W:World}{d n:Nat}{f:Nat→Int}(h:zb7 w d n f)(hb:Below B w W)(hd:d<B):zb7 W d n f:=by
 obtain⟨c,h1,h3,h4⟩:=h
 exact⟨c,(hb.block d hd).trans h1,h3,h4⟩
theorem rowA_tet5 (G:Gl)(t f:Nat)(hf:f<4):(rowA G t)[f*5]?=some (.int .i64 (G.tet (4*t+f))):=by
 rcases (show f=0∨f=1∨f=2∨f=3 by omega) with rfl | rfl | rfl | rfl<;>simp[rowA]
theorem Below.grown0 {W W':World}(hb:Below W.heap.size W W'):W.grownBy W' none:=⟨hb.os,hb.tape,hb.output,hb.size,fun k hk _=>hb.block k hk⟩
structure LN (w W:World)(N n:Nat)(a:Option Addr)(cap:Nat)(v:Value)(xs:List Int):Prop where
 c0:W.cell? ⟨N,0,none⟩=some (.slice a n cap)
 d1:DS W (N+1)
 d2:DS W (N+2)
 ol:OL W (N+3) v xs
 bel:Below N w W
structure LR (w W:World)(N n:Nat)(a:Option Addr)(cap:Nat)(v:Value)(xs:List Int)(D:Nat)(G:Gl)(t:Nat):Prop where
 ln:LN w W N n a cap v xs
 row:zb9 W D 0 G t
 lo:N+3≤D
 lt:D<W.heap.size
 ne:v.ownBlock≠some D
section
variable {w W W':World}{N n:Nat}{a:Option Addr}{cap:Nat}{v v':Value}{xs xs':List Int}{D t:Nat}{G:Gl}
theorem LN.lt (h:LN w W N n a cap v xs):N+2<W.heap.size:=h.d2.lt
theorem LN.kept (h:LN w W N n a cap v xs)(hg:W.grownBy W' none):LN w W' N n a cap v xs:=
 ⟨hg.cell h.c0 (by simp),h.d1.kept hg (by simp),h.d2.kept hg (by simp),h.ol.kept hg (by cases v.ownBlock<;>simp),h.bel.grown hg (by have:=h.lt;omega) (fun k e=>by cases e)⟩
theorem LR.of (h:LN w W N n a cap v xs):LR w (W.alloc (.cells (rowA G t) 88)) N n a cap v xs W.heap.size G t:=
 ⟨h.kept (World.grownBy_alloc _ _ none),fun j hj=>by rw[Nat.zero_add];exact World.cell?_alloc_at _ _ _ _ rfl,by have:=h.lt;omega,by simp,fun e=>by have:=(h.ol.lt _ e).2;omega⟩
theorem LR.dist (h:LR w W N n a cap v xs D G t)(h1:OL W' (N+3) v' xs')(h2:W.grownBy W' v.ownBlock)(h3:v'.ownBlock=v.ownBlock∨∃g,v'.ownBlock=some g∧W.heap.size≤g):LR w W' N n a cap v' xs' D G t:=by
 have lo:∀b,b<N+3→some b≠v.ownBlock:=fun b hb e=>by have:=(h.ln.ol.lt b e.symm).1;omega
 refine⟨⟨h2.cell h.ln.c0 (lo N (by omega)),h.ln.d1.kept h2 (lo _ (by omega)),h.ln.d2.kept h2 (lo _ (by omega)),h1,h.ln.bel.grown h2 (by have:=h.ln.lt;omega) (fun k e=>by have:=(h.ln.ol.lt k e).1;omega)⟩,h.row.kept h2 (fun e=>h.ne e.symm),h.lo,Nat.lt_of_lt_of_le h.lt h2.size,fun e=>?_⟩
 rcases h3 with q | ⟨g,q,hg⟩
 ·exact h.ne (q▸e)
 ·rw[q] at e;have:=Option.some.inj e;have:=h.lt;omega
theorem LR.set0 (h:LR w W N n a cap v xs D G t)(z:Int):LR w (W.setCell ⟨N+2,0,none⟩ (.int .i64 z)) N n a cap v xs D G t:=by
 have hg:=za1 W (N+2) 0 (.int .i64 z)
 refine⟨⟨hg.cell h.ln.c0 (by simp),h.ln.d1.kept hg (by simp),h.ln.d2.s0 z,h.ln.ol.kept hg ?_,h.ln.bel.grown hg (by have:=h.ln.lt;omega) (fun k e=>by cases e;omega)⟩,h.row.kept hg (fun e=>by have:=Option.some.inj e;have:=h.lo;omega),h.lo,by simpa using h.lt,h.ne⟩
 right;intro e;have:=(h.ln.ol.lt _ e).1;omega
end
def RetSix (w:World)(e:Ending)(w':World):Prop:=(∃(a b c d:Int) (x y:Bool),e=.returned (.agg #[.int .i64 a,.int .i64 b,.int .i64 c,.int .i64 d,.bool x,.bool y]))∧Below w.heap.size w w'
theorem rlink_walk (G:Gl)(hok:za9 G=true)(w:World)(v:Value)(hv:GlAt w.heap.size w v G)(d:Nat)(vf:Nat→Int)(hd:zb7 w d (4*G.n) vf)(d':Nat)(df:Nat→Int)(hd':zb7 w d' (16*G.n) df)(x:Int) :
  Calls Try.prog 95 #[.agg #[v],.slice (some ⟨d,0,none⟩) (4*G.n) (4*G.n),.slice (some ⟨d',0,none⟩) (16*G.n) (16*G.n),.int .i64 x] w (RetSix w):=by
 have hn:G.n≤1000:=by simp only[za9,Bool.and_eq_true,decide_eq_true_eq] at hok;exact hok.1
 have HO:=Hd3 hok hd hd'
 have HV:=Lib.hid hv
 have hdl:=hd.lt
 have hdl':=hd'.lt
 clear hok hd hd'
 obtain⟨a,b,off,cap,rfl,ha,hc⟩:=hv
 have HGC:=Hd2 ha hc;clear ha hc
 go_enter Try.func95,Try.ntmps95
 go_wp2
 refine zb3 fun W1 hW=>?_
 have h1:LN w W1 w.heap.size G.n a cap (.slice none 0 0) []:=by
  rw[hW]
  refine⟨by simp[go_sem],?_,?_,OL.nil _ _,by (repeat' (first | assumption | exact Below.refl _ _ | refine za7 ?_ (by assumption) | refine zb2 ?_ _ | refine za5 ?_ | refine zb1 ?_ (by simp<;>omega) _))⟩
  ·have:=ds_new (w.alloc (.cells #[.slice a G.n cap] 24)) 0 0 0 0 false false
   rw[World.size_alloc] at this
   exact this.kept (World.grownBy_alloc _ _ none) (by simp)
  ·have:=ds_new ((w.alloc (.cells #[.slice a G.n cap] 24)).alloc (.cells #[.int .i64 0,.int .i64 0,.int .i64 0,.int .i64 0,.bool false,.bool false] 164)) 0 0 0 0 true true
   rw[World.size_alloc,World.size_alloc] at this
   exact this
 have H1:=Lib.hid h1
 have c0:=h1.c0
 clear h1 hW
 generalize hN:w.heap.size=N at *
 go_loopw [21,10,11,12] (fun i p q c wr=>∃(t:Nat) (pz qz:Int) (xs:List Int),t≤G.n∧i=.int .i64 t∧p=.int .i64 pz∧q=.int .i64 qz∧xs.length≤16*t∧LN w wr N G.n a cap c xs) (fun i _ _ _ _=>G.n-(intOf i).toNat)
 case atStart=>exact⟨0,0,0,[],by omega,rfl,rfl,rfl,by simp,H1.out⟩
 case round=>
  clear H1 c0
  obtain⟨t,pz,qz,xs,ht,rfl,rfl,rfl,hxs,hR⟩:=hrel
  obtain⟨la,lc,rfl⟩:=za8 hR.ol
  have HR:=Lib.hid hR
  rcases Nat.lt_or_ge t G.n with htn | htn
  ·obtain⟨hga,hgc⟩:=HGC.out
   obtain⟨rfl,hbB⟩:=hga (by omega)
   have hrow:=ze5 (W:=wr) (b:=b) (off:=off) (fun k hk=>⟨(hR.bel.cell (p:=⟨b,_,none⟩) (by show b<N;omega)).trans (hgc k hk).1,fun i hi=>(hR.bel.cell (p:=⟨b,_,none⟩) (by show b<N;omega)).trans ((hgc k hk).2 i hi)⟩) t htn
   have hrg:=hrow.range
   have t0:0≤(t:Int):=by omega
   have tn:(t:Int)<(G.n:Int):=by omega
   clear hR hga hgc hrow
   go_wp2_with (first|(refine zb8 rfl 88 (.tmp 24) rfl b (off+t*20) rfl (rowA G t) _ hrg Try.underlying88 rfl (by kernel_rfl) ?_)|(refine zc2 (w:=wr) rfl 88 (.tmp 14) (.tmp 25) rfl _ (rowA G t) rfl rfl (by kernel_rfl) rfl (zf9 G t) ?_))
   refine zb3 fun W3 hW3=>?_
   obtain⟨D,hD⟩:∃D,D=wr.heap.size:=⟨_,rfl⟩
   have h3:LR w W3 N G.n (some ⟨b,off,none⟩) cap (.slice la xs.length lc) xs D G t:=by rw[hW3,hD];exact LR.of HR.out
   rw[←hD]
   have H3:=Lib.hid h3
   clear h3 hW3 HR hrg hD
   go_loopw [15,10,11,12] (fun i p q c wr=>∃(j:Nat) (pz qz:Int) (xs:List Int),j≤4∧i=.int .i64 j∧p=.int .i64 pz∧q=.int .i64 qz∧xs.length≤16*t+4*j∧LR w wr N G.n (some ⟨b,off,none⟩) cap c xs D G t) (fun i _ _ _ _=>4-(intOf i).toNat)
   case atStart=>exact⟨0,pz,qz,xs,by omega,rfl,rfl,rfl,by omega,H3.out⟩
   case round=>
    clear H3 hxs
    obtain⟨i,pz,qz,xs,hi,rfl,rfl,rfl,hxs,hR⟩:=hrel
    obtain⟨la,lc,rfl⟩:=za8 hR.ln.ol
    have HR:=Lib.hid hR
    rcases Nat.lt_or_ge i 4 with hi4 | hi4
    ·have i4:(i:Int)<4:=by omega
     have i0:0≤(i:Int):=by omega
     have cv:=(hR.ln.bel.cell (p:=⟨d,4*t+i,none⟩) (by show d<N;omega)).trans (HO.out.2.1.cell (i:=4*t+i) (by omega))
     obtain⟨I,hI⟩:∃I:Nat,I=4*t+i:=⟨_,rfl⟩
     rw[←hI] at cv
     have hIn:I<4*G.n:=by omega
     have hIe:4*(t:Int)+(i:Int)=(I:Int):=by omega
     clear hI
     obtain⟨oa,ob,oc,od,ox,oy,k0,k1,k2,k3,k4,k5⟩:=hR.ln.d2.c
     have hfz:=hR.ln.d2.f 0
     clear hR k1 k2 k3 k4 k5
     generalize vf I=y at *
     by_cases eyx:y=x
     ·have b2:(y !=x)=false:=by simp[bne,eyx]
      clear eyx
      go_wp2
      refine zb3 fun W5 hW5=>?_
      have h5:LR w W5 N G.n (some ⟨b,off,none⟩) cap (.slice la xs.length lc) xs D G t:=by rw[hW5];exact HR.out.set0 _
      have H5:=Lib.hid h5
      clear h5 hW5 HR cv k0 hfz
      go_loopw [16,10,11,12] (fun i' p q c wr=>∃(j:Nat) (pz qz:Int) (xs:List Int),j≤4∧i'=.int .i64 j∧p=.int .i64 pz∧q=.int .i64 qz∧xs.length≤16*t+4*i+j∧LR w wr N G.n (some ⟨b,off,none⟩) cap c xs D G t) (fun i _ _ _ _=>4-(intOf i).toNat)
      case atStart=>exact⟨0,pz,qz,xs,by omega,rfl,rfl,rfl,by omega,H5.out⟩
      case round=>
       clear H5 hxs
       obtain⟨j,pz,qz,xs,hj,rfl,rfl,rfl,hxs,hR⟩:=hrel
       obtain⟨la,lc,rfl⟩:=za8 hR.ln.ol
       rcases Nat.lt_or_ge j 4 with hj4 | hj4
       ·have j4:(j:Int)<4:=by omega
        have j0:0≤(j:Int):=by omega
        have HR:=Lib.hid hR
        by_cases eij:j=i
        ·have b1:=zd0 eij
         clear hR eij
         go_wp2
         go_roundw
         case rel=>exact⟨j+1,pz,qz,xs,by omega,rfl,rfl,rfl,by omega,HR.out⟩
         case measure=>simp[intOf];omega
        ·have b1:=zc4 eij
         clear eij
         have cd:=(hR.ln.bel.cell (p:=⟨d',16*t+4*i+j,none⟩) (by show d'<N;omega)).trans (HO.out.2.2.cell (i:=16*t+4*i+j) (by omega))
         obtain⟨J,hJ⟩:∃J:Nat,J=16*t+4*i+j:=⟨_,rfl⟩
         rw[←hJ] at cd
         have hJn:J<16*G.n:=by omega
         have hJe:16*(t:Int)+4*(i:Int)+(j:Int)=(J:Int):=by omega
         clear hJ
         have hNs:N+3≤wr.heap.size:=hR.ln.lt
         clear hR
         generalize df J=z at *
         go_wp2_with fail
         refine (distinct_walk (N+3) _ xs z _ HR.out.ln.ol (by omega) hNs).mono ?_
         rintro e w6 ⟨v',xs',rfl,r1,r2,r3,r4⟩
         have h6:=HR.out.dist r1 r3 r4
         have ct:w6.cell? ⟨D,j*5,none⟩=some (.int .i64 (G.tet (4*t+j))):=by
          have:=h6.row (j*5) (by omega)
          rw[Nat.zero_add,rowA_tet5 G t j hj4] at this
          exact this
         have H6:=Lib.hid h6
         have hxl:xs'.length≤16*t+4*i+(j+1):=by omega
         clear h6 r1 r2 r3 r4 HR cd
         generalize G.tet (4*t+j)=T at *
         by_cases hT:T<0
         ·go_wp2
          go_roundw
          case rel=>exact⟨j+1,_,_,xs',by omega,rfl,rfl,rfl,by omega,H6.out⟩
          case measure=>simp[intOf];omega
         ·go_wp2
          go_roundw
          case rel=>exact⟨j+1,_,_,xs',by omega,rfl,rfl,rfl,by omega,H6.out⟩
          case measure=>simp[intOf];omega
       ·obtain rfl:j=4:=by omega
        have HR:=Lib.hid hR
        clear hR
        go_wp2
        go_roundw
        case rel=>exact⟨i+1,pz,qz,xs,by omega,rfl,rfl,rfl,by omega,HR.out⟩
        case measure=>simp[intOf];omega
     ·have b2:(y !=x)=true:=by simpa [bne] using eyx
      clear eyx k0 hfz
      go_wp2
      go_roundw
      case rel=>exact⟨i+1,pz,qz,xs,by omega,rfl,rfl,rfl,by omega,HR.out⟩
      case measure=>simp[intOf];omega
    ·obtain rfl:i=4:=by omega
     clear hR
     go_wp2
     go_roundw
     case rel=>exact⟨t+1,pz,qz,xs,by omega,rfl,rfl,rfl,by omega,HR.out.ln⟩
     case measure=>simp[intOf];omega
  ·obtain rfl:t=G.n:=by omega
   have hl:=hR.lt
   obtain⟨oa,ob,oc,od,ox,oy,k0,k1,k2,k3,k4,k5⟩:=hR.d2.c
   have hfz:=hR.d2.f
   have c0:=hR.c0
   clear hR
   go_wp2_with fail
   refine zb4 fun W7 hW7=>?_
   have h7:DS W7 (N+1)∧DS W7 (N+1+1)∧Below N w W7:=by
    rw[hW7]
    refine⟨(((HR.out.d1.kept (za1 _ _ _ _) (by simp)).kept (za1 _ _ _ _) (by simp)).kept (za1 _ _ _ _) (by simp)).kept (za1 _ _ _ _) (by simp),(((HR.out.d2.s1 _).s2 _).s3 _).s4 _,?_⟩
    exact (((HR.out.bel.setCell (by show N≤N+1+1;omega) _).setCell (by show N≤N+1+1;omega) _).setCell (by show N≤N+1+1;omega) _).setCell (by show N≤N+1+1;omega) _
   clear hW7 k0 k1 k2 k3 k4 k5 hfz c0
   have hsz:=h7.2.2.size
   refine (rorientable_walk G HO.out.1 W7 _ ((HV.out.below h7.2.2).mono (by omega)) d vf (zb7.below HO.out.2.1 h7.2.2 hdl) x).mono ?_
   rintro e w8 ⟨⟨bo,rfl⟩,hb8⟩
   have hg8:=Below.grown0 hb8
   have q1:=h7.1.kept hg8 (by simp)
   have q2:=h7.2.1.kept hg8 (by simp)
   have hb9:=h7.2.2.trans (hb8.mono (by omega))
   obtain⟨ra,rb,rc,rd,rx,ry,m0,m1,m2,m3,m4,m5⟩:=q2.c
   have hfm:=q2.f
   obtain⟨sa,sb,sc,sd,sx,sy,n0,n1,n2,n3,n4,n5⟩:=q1.c
   have hfn:=q1.f
   have HQ:=Lib.hid hb9
   clear h7 q1 q2 hg8 hb8 hb9
   go_wp2
   refine bodyPost_ret (v:=.agg #[.int .i64 ra,.int .i64 rb,.int .i64 rc,.int .i64 rd,.bool rx,.bool bo]) (by simp[results,Try.results95,go_sem, *]) rfl ⟨⟨_,_,_,_,_,_,rfl⟩,?_⟩
   rw[hN]
   exact six_below (HQ.out.setCell (by show N≤N+1+1;omega) _) (by omega) _ _ _ _ _ _
end
section
open Go.RowKit Go.Shelf Go.Maps
theorem rvertices (G:Gl)(hok:za9 G=true)(w:World)(v:Value)(hv:GlAt w.heap.size w v G) :
  Calls Try.prog 48 #[.agg #[v]] w fun e w'=>∃d,e=.returned (.tuple #[.slice (some ⟨d,0,none⟩) (4*G.n) (4*G.n),.int .i64 (nV G:Nat)])∧w.heap.size≤d∧zb7 w' d (4*G.n) (fun i=>(vN G i:Nat))∧Below w.heap.size w w':=by
 have h:=vertices_walk G hok w v hv
 rw[←cls_r1] at h
 exact h
theorem rtriangles (G:Gl)(hok:za9 G=true)(w:World)(v:Value)(hv:GlAt w.heap.size w v G) :
  Calls Try.prog 50 #[.agg #[v]] w fun e w'=>∃d,e=.returned (.tuple #[.slice (some ⟨d,0,none⟩) (4*G.n) (4*G.n),.int .i64 (nF G:Nat)])∧w.heap.size≤d∧zb7 w' d (4*G.n) (fun i=>(fN G i:Nat))∧Below w.heap.size w w':=by
 have h:=triangles_walk G hok w v hv
 rw[←cls_r4] at h
 exact h
theorem redges (G:Gl)(hok:za9 G=true)(w:World)(v:Value)(hv:GlAt w.heap.size w v G) :
  Calls Try.prog 49 #[.agg #[v]] w fun e w'=>∃d,e=.returned (.tuple #[.slice (some ⟨d,0,none⟩) (6*G.n) (6*G.n),.int .i64 (nE G:Nat)])∧w.heap.size≤d∧zb7 w' d (6*G.n) (fun i=>(eN G i:Nat))∧Below w.heap.size w w':=by
 have h:=edges_walk G hok w v hv
 rw[←cls_r3] at h
 exact h
theorem rdirected (G:Gl)(hok:za9 G=true)(w:World)(v:Value)(hv:GlAt w.heap.size w v G) :
  Calls Try.prog 94 #[.agg #[v]] w fun e w'=>∃d,e=.returned (.slice (some ⟨d,0,none⟩) (16*G.n) (16*G.n))∧w.heap.size≤d∧zb7 w' d (16*G.n) (fun i=>((zb5 G).r2 i:Nat))∧Below w.heap.size w w':=by
 have h:=directed_walk G hok w v hv
 rw[←cls_r2] at h
 exact h
theorem rv1_root {G:Gl}(hok:za9 G=true){t k:Nat}(ht:t<G.n)(hk:k<6):rv1 G (6*t+k)=((zb5 G).r2 (16*t+4*pA k+pB k)==(zb5 G).r2 (16*t+4*pB k+pA k)):=by
 have e1:(6*t+k) / 6=t:=by omega
 have e2:(6*t+k) % 6=k:=by omega
 have a4:=pA_lt k
 have b4:=pB_lt k
 obtain⟨u,hu⟩:=(cls_inv hok).2.1
 rw[rv1,e1,e2]
 have i1:=hu.idem (16*t+4*pA k+pB k) (by omega)
 have i2:=hu.idem (16*t+4*pB k+pA k) (by omega)
 unfold dN
 generalize (zb5 G).r2 (16*t+4*pA k+pB k)=x at *
 generalize (zb5 G).r2 (16*t+4*pB k+pA k)=y at *
 by_cases e:x=y
 ·rw[e,beq_self_eq_true,beq_self_eq_true]
 ·have:cnt (zb5 G).r2 x≠cnt (zb5 G).r2 y:=fun h=>e (cnt_inj i1 i2 h)
  rw[beq_eq_false_iff_ne.2 e,beq_eq_false_iff_ne.2 this]
theorem ownsRow_up {w:World}{e:TypeId}{size:Nat}{v:Value}{n B:Nat}{xs:List Value}(h:w.ownsRow 0 e size v n xs)(hk:∀k,v.ownBlock=some k→B≤k):w.ownsRow B e size v n xs:=by
 refine⟨h.1,?_⟩
 rcases h.2 with h | ⟨g,cap,cur,h1,h2,h3⟩
 ·exact .inl h
 ·exact .inr ⟨g,cap,cur,h1,hk g (by rw[h1];rfl),h3⟩
theorem Kb.cell {D:Nat}{W W':World}{b o:Nat}{v:Value}(h:Kb D W W')(hc:W.cell? ⟨b,o,none⟩=some v)(hd:b≠D):W'.cell? ⟨b,o,none⟩=some v:=
 (World.cell?_of_block (w:=W) (h.2 b (za0 hc) hd)).trans hc
theorem Kb.frozen {D:Nat}{W W':World}{b o:Nat}{x:Bool}(h:Kb D W W')(hb:b<W.heap.size)(hc:W.frozen? ⟨b,o,none⟩=x)(hd:b≠D):W'.frozen? ⟨b,o,none⟩=x:=
 (World.frozen?_of_block (w:=W) (h.2 b hb hd)).trans hc
def zf (f:Nat→Nat)(k:Nat):Nat→Value:=fun j=>if j<k then .int .i64 (f j:Nat) else .int .i64 0
theorem zf_succ (f:Nat→Nat)(k:Nat)(j:Nat):(if j=k then Value.int .i64 (f k:Nat) else zf f k j)=zf f (k+1) j:=by
 unfold zf
 by_cases e:j=k
 ·subst e;simp
 ·have:j<k+1↔j<k:=by omega
  simp[e,this]
theorem rskeleton_walk (G:Gl)(v:Value)(w:World)(hG:GlAt w.heap.size w v G)(hok:za9 G=true) :
  Calls Try.prog 53 #[.agg #[v]] w fun e w'=>∃sv,e=.returned sv∧SkR w' w.heap.size sv G∧Below w.heap.size w w':=by
 have hn:G.n≤1000:=by simp only[za9,Bool.and_eq_true,decide_eq_true_eq] at hok;exact hok.1
 have hsz:nE G≤6000:=by have:=zg7 (zb5 G).r3 (6*G.n);unfold nE;omega
 have hnv:nV G≤4000:=by have:=zg7 (zb5 G).r1 (4*G.n);unfold nV;omega
 have HOK:=Lib.hid hok;clear hok
 have HG:=Lib.hid hG
 obtain⟨a,b,off,cap,rfl,hga,hc⟩:=hG
 clear hga hc
 have G1:∀W,Below w.heap.size w W→GlAt W.heap.size W (.slice a G.n cap) G:=fun W h=>(HG.out.below h).mono h.size
 have HG1:=Lib.hid G1;clear G1
 go_enter Try.func53,Try.ntmps53
 go_wp2_with fail
 refine zb4 fun W2 hW=>?_
 have h2:W2.cell? ⟨w.heap.size,0,none⟩=some (.slice a G.n cap)∧(∀o,o<6→W2.cell? ⟨w.heap.size+1,o,none⟩=some (.slice none 0 0))∧(∀o,W2.frozen? ⟨w.heap.size+1,o,none⟩=false)∧(∀o,o<6→W2.cell? ⟨w.heap.size+1+1,o,none⟩=some (.slice none 0 0))∧(∀o,W2.frozen? ⟨w.heap.size+1+1,o,none⟩=false)∧Below w.heap.size w W2∧W2.heap.size=w.heap.size+3:=by
  rw[hW]
  refine⟨by simp[go_sem],fun o ho=>?_,fun o=>by simp[go_sem],fun o ho=>?_,fun o=>by simp[go_sem],by (repeat' (first | assumption | exact Below.refl _ _ | refine za7 ?_ (by assumption) | refine zb2 ?_ _ | refine za5 ?_ | refine zb1 ?_ (by simp<;>omega) _)),by simp⟩
  all_goals
   obtain rfl | rfl | rfl | rfl | rfl | rfl:o=0∨o=1∨o=2∨o=3∨o=4∨o=5:=by omega
   all_goals simp[go_sem]
 generalize hN:w.heap.size=N at *
 obtain⟨x0,x1,x2,x3,x4,hB2,hs2⟩:=h2
 have H2:=Hd6 x0 x1 x2 x3 x4 hB2
 clear hW x1 x2 x3 x4 hB2
 refine (rvertices G HOK.out W2 _ (HG1.out W2 (H2.out.2.2.2.2.2))).mono ?_
 rintro e W3 ⟨dv,rfl,hdv,rv,hb3⟩
 replace x0:=(hb3.cell (p:=⟨N,0,none⟩) (by show N<_;omega)).trans x0
 have hB3:=H2.out.2.2.2.2.2.trans (hb3.mono (by omega))
 have H3:=Hd3 rv hb3 hB3
 have hs3:=hb3.size
 clear rv hb3 hB3
 go_wp2_with fail
 refine (redges G HOK.out W3 _ (HG1.out W3 (H3.out.2.2))).mono ?_
 rintro e W4 ⟨de,rfl,hde,re,hb4⟩
 replace x0:=(hb4.cell (p:=⟨N,0,none⟩) (by show N<_;omega)).trans x0
 have hB4:=H3.out.2.2.trans (hb4.mono (by omega))
 have H4:=Hd3 re hb4 hB4
 have hs4:=hb4.size
 clear re hb4 hB4
 go_wp2_with fail
 refine (rtriangles G HOK.out W4 _ (HG1.out W4 (H4.out.2.2))).mono ?_
 rintro e W5 ⟨df,rfl,hdf,rf,hb5⟩
 replace x0:=(hb5.cell (p:=⟨N,0,none⟩) (by show N<_;omega)).trans x0
 have hB5:=H4.out.2.2.trans (hb5.mono (by omega))
 have H5:=Hd3 rf hb5 hB5
 have hs5:=hb5.size
 clear rf hb5 hB5
 go_wp2_with fail
 refine (rdirected G HOK.out W5 _ (HG1.out W5 (H5.out.2.2))).mono ?_
 rintro e W6 ⟨dd,rfl,hdd,rd,hb6⟩
 replace x0:=(hb6.cell (p:=⟨N,0,none⟩) (by show N<_;omega)).trans x0
 have hB6:=H5.out.2.2.trans (hb6.mono (by omega))
 have hs6:=hb6.size
 have hB26:Below W2.heap.size W2 W6:=((H3.out.2.1.trans (H4.out.2.1.mono hs3)).trans (H5.out.2.1.mono (by omega))).trans (hb6.mono (by omega))
 have lv:=H3.out.1.lt
 have le:=H4.out.1.lt
 have lf:=H5.out.1.lt
 have ld:=rd.lt
 have rv6:zb7 W6 dv (4*G.n) (fun i=>(vN G i:Nat)):=zb7.below (zb7.below (zb7.below H3.out.1 H4.out.2.1 lv) H5.out.2.1 (by omega)) hb6 (by omega)
 have re6:zb7 W6 de (6*G.n) (fun i=>(eN G i:Nat)):=zb7.below (zb7.below H4.out.1 H5.out.2.1 le) hb6 (by omega)
 have rf6:zb7 W6 df (4*G.n) (fun i=>(fN G i:Nat)):=zb7.below H5.out.1 hb6 lf
 have y3:∀o,o<6→W6.cell? ⟨N+1+1,o,none⟩=some (.slice none 0 0):=fun o ho=>(hB26.cell (p:=⟨N+1+1,o,none⟩) (by show N+1+1<_;omega)).trans (H2.out.2.2.2.1 o ho)
 have y4:∀o,W6.frozen? ⟨N+1+1,o,none⟩=false:=fun o=>(hB26.frozen (p:=⟨N+1+1,o,none⟩) (by show N+1+1<_;omega)).trans (H2.out.2.2.2.2.1 o)
 have y1:∀o,o<6→W6.cell? ⟨N+1,o,none⟩=some (.slice none 0 0):=fun o ho=>(hB26.cell (p:=⟨N+1,o,none⟩) (by show N+1<_;omega)).trans (H2.out.2.1 o ho)
 have y2:∀o,W6.frozen? ⟨N+1,o,none⟩=false:=fun o=>(hB26.frozen (p:=⟨N+1,o,none⟩) (by show N+1<_;omega)).trans (H2.out.2.2.1 o)
 have H6:=Hd8 rv6 re6 rf6 rd x0 y1 y2 hB6
 have hlts:dv<W6.heap.size∧de<W6.heap.size∧df<W6.heap.size∧dd<W6.heap.size∧N+3≤dv∧N+3≤de∧N+3≤df∧N+3≤dd∧N+3≤W6.heap.size:=by omega
 have y33:=y3 3 (by omega)
 have y34:=y3 4 (by omega)
 have y43:=y4 3
 have y44:=y4 4
 have HY:=Hd2 y3 y4
 have y33a:=za4 y33
 have y43a:∀o,(W6.alloc o).frozen? ⟨N+1+1,3,none⟩=false:=fun o=>(World.grownBy.frozen_far (World.grownBy_alloc W6 o none) ⟨N+1+1,3,none⟩ (za0 y33) (by simp)).trans y43
 have y34a:∀o v o2,(((W6.alloc o).setCell ⟨N+1+1,3,none⟩ v).alloc o2).cell? ⟨N+1+1,4,none⟩=some (.slice none 0 0):=fun o v o2=>za4 (zc0 (za4 y34 o) (by omega)) o2
 have x0a:∀o v o2 u,((((W6.alloc o).setCell ⟨N+1+1,3,none⟩ v).alloc o2).setCell ⟨N+1+1,4,none⟩ u).cell? ⟨N,0,none⟩=some (.slice a G.n cap):=fun o v o2 u=>
  (za1 _ (N+1+1) 4 u).cell (za4 ((za1 _ (N+1+1) 3 v).cell (za4 x0 o) (by simp;omega)) o2) (by simp;omega)
 have y44a:∀o v o2,(((W6.alloc o).setCell ⟨N+1+1,3,none⟩ v).alloc o2).frozen? ⟨N+1+1,4,none⟩=false:=fun o v o2=>
  (World.grownBy.frozen_far (World.grownBy_alloc _ o2 none) ⟨N+1+1,4,none⟩ (by have:=za0 y34;simp only at this;simp;omega) (by simp)).trans ((World.frozen?_setCell _ _ _ _).trans ((World.grownBy.frozen_far (World.grownBy_alloc W6 o none) ⟨N+1+1,4,none⟩ (za0 y34) (by simp)).trans y44))
 clear rv6 re6 rf6 rd y1 y2 y3 y4 hB6 hB26 hb6 H2 H3 H4 H5 lv le lf ld hdv hde hdf hdd hs2 hs3 hs4 hs5 hs6
 obtain⟨lv,le,lf,ld,gv,ge,gf,gd,gs⟩:=hlts
 have hmk3:=run_make_row' (P:=Try.prog) 35 3 (.int .i64 0) 8 und35 info3 rfl .i64 .i64 (nE G) (by omega) (by omega)
 have hmk4:=run_make_row' (P:=Try.prog) 51 4 (.bool false) 1 und51 info4 rfl .i64 .i64 (nE G) (by omega) (by omega)
 go_wp2
 refine zb3 fun W7 hW=>?_
 have hRK:RK w W6 W7 N (N+1+1) W6.heap.size (W6.heap.size+1) (nE G) q0 (fun _=>0) (fun _=>[]) (fun _=>false):=by
  have g1:=World.grownBy_alloc W6 (.cells (madeCells #[.int .i64 0] (nE G)) 3) none
  have g2:=za1 (W6.alloc (.cells (madeCells #[.int .i64 0] (nE G)) 3)) (N+1+1) 3 (.slice (some ⟨W6.heap.size,0,none⟩) (nE G) (nE G))
  have g3:=World.grownBy_alloc ((W6.alloc (.cells (madeCells #[.int .i64 0] (nE G)) 3)).setCell ⟨N+1+1,3,none⟩ (.slice (some ⟨W6.heap.size,0,none⟩) (nE G) (nE G))) (.cells (madeCells #[.bool false] (nE G)) 4) none
  have g4:=za1 (((W6.alloc (.cells (madeCells #[.int .i64 0] (nE G)) 3)).setCell ⟨N+1+1,3,none⟩ (.slice (some ⟨W6.heap.size,0,none⟩) (nE G) (nE G))).alloc (.cells (madeCells #[.bool false] (nE G)) 4)) (N+1+1) 4 (.slice (some ⟨W6.heap.size+1,0,none⟩) (nE G) (nE G))
  have r1:=World.rowIs_made W6 (.int .i64 0) (nE G) 3
  have r2:=World.rowIs_made ((W6.alloc (.cells (madeCells #[.int .i64 0] (nE G)) 3)).setCell ⟨N+1+1,3,none⟩ (.slice (some ⟨W6.heap.size,0,none⟩) (nE G) (nE G))) (.bool false) (nE G) 4
  simp only[World.size_setCell,World.size_alloc] at r2
  have oth:∀o x,o≠3→o≠4→W6.cell? ⟨N+1+1,o,none⟩=some x→W7.cell? ⟨N+1+1,o,none⟩=some x:=fun o x h3 h4 h=>by
   rw[hW];exact zc0 (za4 (zc0 (za4 h _) (fun e=>h3 e.symm)) _) (fun e=>h4 e.symm)
  refine⟨SK.start (fun o ho=>oth o _ (by rcases ho with e | e | e | e<;>omega) (by rcases ho with e | e | e | e<;>omega) (HY.out.1 o (by rcases ho with e | e | e | e<;>omega))) ?_ ?_ (fun o=>?_) ?_ ?_ ⟨by omega,by omega,by omega⟩,fun o _ k hk=>by simp[q0,Value.ownBlock] at hk,?_,⟨by omega,by omega,Nat.le_refl _,by omega⟩,?_⟩
  ·rw[hW];exact zc0 (za4 (World.cell?_setCell_same _ _ _ (y33a _)) _) (by omega)
  ·rw[hW];exact World.cell?_setCell_same _ _ _ (y34a _ _ _)
  ·rw[hW,World.frozen?_setCell]
   refine (World.grownBy.frozen_far g3 ⟨N+1+1,o,none⟩ (by have:=za0 y34;simp only at this;simp;omega) (by simp)).trans ?_
   rw[World.frozen?_setCell]
   exact (World.grownBy.frozen_far g1 ⟨N+1+1,o,none⟩ (by have:=za0 y34;simpa using this) (by simp)).trans (HY.out.2 o)
  ·rw[hW];exact za3 (za3 (za3 r1 g2 (by simp;omega)) g3 (by simp)) g4 (by simp;omega)
  ·rw[hW];exact za3 r2 g4 (by simp;omega)
  ·rw[hW];exact ((((show Kb (N+1+1) W6 W6 from⟨Nat.le_refl _,fun _ _ _=>rfl⟩).grown g1 (fun k e=>by cases e)).grown g2 (fun k e=>.inl (by cases e;rfl))).grown g3 (fun k e=>by cases e)).grown g4 (fun k e=>.inl (by cases e;rfl))
  ·rw[hW]
   have hb:=H6.out.2.2.2.2.2.2.2
   exact (((hb.alloc (by omega) _).setCell (by show N≤N+1+1;omega) _).alloc (by simp;omega) _).setCell (by show N≤N+1+1;omega) _
 have HR:=Lib.hid hRK
 clear hRK hW hmk3 hmk4 y33 y34 y43 y44 y33a y43a y34a y44a x0 x0a HY
 obtain⟨M4,hM4⟩:∃x,x=4*G.n:=⟨_,rfl⟩
 obtain⟨M6,hM6⟩:∃x,x=6*G.n:=⟨_,rfl⟩
 obtain⟨M16,hM16⟩:∃x,x=16*G.n:=⟨_,rfl⟩
 rw[←hM4,←hM6,←hM16]
 have HM:=Hd3 hM4 hM6 hM16
 clear hM4 hM6 hM16
 obtain⟨dB,hdB⟩:∃x,x=W6.heap.size:=⟨_,rfl⟩
 obtain⟨rB,hrB⟩:∃x,x=W6.heap.size+1:=⟨_,rfl⟩
 rw[←hrB,←hdB] at HR
 rw[←hrB,←hdB]
 clear hdB hrB
 go_loopw [46] (fun i wr=>∃(t:Nat) (q:Nat→Value),t≤G.n∧i=.int .i64 t∧RK w W6 wr N (N+1+1) dB rB (nE G) q (cT t) (xT G t) (revK G (6*t))) (fun i _=>G.n-(intOf i).toNat)
 case atStart=>exact⟨0,q0,by omega,rfl,HR.out.congr (fun o _=>by simp[cT]) (fun o ho=>by rcases ho with rfl | rfl | rfl | rfl<;>simp[xT,ints]) (fun i=>by simp[revK])⟩
 case round=>
  clear HR
  obtain⟨t,q,ht,rfl,hR⟩:=hrel
  rcases Nat.lt_or_ge t G.n with htn | htn
  ·have HR:=Lib.hid hR
   clear hR
   have t0:0≤(t:Int):=by omega
   have tn:(t:Int)<(G.n:Int):=by omega
   go_wp2
   refine zb3 fun W8 hW=>?_
   obtain⟨A1,hA1⟩:∃x,x=wr.heap.size:=⟨_,rfl⟩
   obtain⟨A2,hA2⟩:∃x,x=wr.heap.size+1:=⟨_,rfl⟩
   obtain⟨A3,hA3⟩:∃x,x=wr.heap.size+1+1:=⟨_,rfl⟩
   have h8:RA w W6 W8 N (N+1+1) dB rB (nE G) q (cT t) (xT G t) (revK G (6*t)) A1 A2 A3 (zf (fun j=>vN G (4*t+j)) 0) (zf (fun j=>fN G (4*t+j)) 0) (zf (fun j=>eN G (6*t+j)) 0):=by
    rw[hW,hA1,hA2,hA3]
    exact (RA.fresh HR.out).congr (fun _ _=>rfl) (fun _ _=>rfl) (fun _=>rfl) (fun i _=>by simp[zf]) (fun i _=>by simp[zf]) (fun i _=>by simp[zf])
   rw[←hA3,←hA2,←hA1]
   have H8:=Lib.hid h8
   clear h8 hW HR hA1 hA2 hA3
   go_loopw [15] (fun i wr=>∃i':Nat,i'≤4∧i=.int .i64 i'∧RA w W6 wr N (N+1+1) dB rB (nE G) q (cT t) (xT G t) (revK G (6*t)) A1 A2 A3 (zf (fun j=>vN G (4*t+j)) i') (zf (fun j=>fN G (4*t+j)) i') (zf (fun j=>eN G (6*t+j)) 0)) (fun i _=>4-(intOf i).toNat)
   case atStart=>exact⟨0,by omega,rfl,H8.out⟩
   case round=>
    clear H8
    obtain⟨i,hi,rfl,hR⟩:=hrel
    rcases Nat.lt_or_ge i 4 with hi4 | hi4
    ·have i0:0≤(i:Int):=by omega
     have i4:(i:Int)<4:=by omega
     obtain⟨I,hI⟩:∃I,I=4*t+i:=⟨_,rfl⟩
     have hIe:4*(t:Int)+(i:Int)=(I:Int):=by omega
     have hIn:I<M4:=by have:=HM.out.1;omega
     have cv:wr.cell? ⟨dv,I,none⟩=some (.int .i64 (vN G I:Nat)):=(hR.rk.kp.row H6.out.1 (by omega)).cell (i:=I) (by have:=HM.out.1;omega)
     have cf:wr.cell? ⟨df,I,none⟩=some (.int .i64 (fN G I:Nat)):=(hR.rk.kp.row H6.out.2.2.1 (by omega)).cell (i:=I) (by have:=HM.out.1;omega)
     have c1:=hR.a1.cell hi4
     have f1:=hR.a1.frozen i
     have c2:=hR.a2.cell hi4
     have f2:=hR.a2.frozen i
     have hA1:=hR.far A1 (.inl rfl)
     have ne1:A1≠A2:=hR.ne.1
     have ne2:A1≠df:=by omega
     have cfb:∀u,(wr.setCell ⟨A1,i,none⟩ u).cell? ⟨df,I,none⟩=some (.int .i64 (fN G I:Nat)):=fun u=>(za1 wr A1 i u).cell cf (by simp;omega)
     have c2b:∀u,(wr.setCell ⟨A1,i,none⟩ u).cell? ⟨A2,i,none⟩=some (zf (fun j=>fN G (4*t+j)) i i):=fun u=>(za1 wr A1 i u).cell c2 (by simp;omega)
     have HR:=Lib.hid hR
     have HII:=Lib.hid hI
     clear hR hA1 hI cf c2
     generalize hv1:vN G I=v1 at *
     generalize hv2:fN G I=v2 at *
     have HV:=Hd2 hv1 hv2
     clear hv1 hv2
     go_wp2
     go_roundw
     case rel=>
      refine⟨i+1,by omega,rfl,((HR.out.set1 i _).set2 i _).congr (fun _ _=>rfl) (fun _ _=>rfl) (fun _=>rfl) (fun j _=>?_) (fun j _=>?_) (fun _ _=>rfl)⟩
      ·rw[←zf_succ];simp only[←HII.out,HV.out.1]
      ·rw[←zf_succ];simp only[←HII.out,HV.out.2]
     case measure=>simp[intOf];omega
    ·have HR:=Lib.hid (show RA w W6 wr N (N+1+1) dB rB (nE G) q (cT t) (xT G t) (revK G (6*t+0)) A1 A2 A3 (zf (fun j=>vN G (4*t+j)) 4) (zf (fun j=>fN G (4*t+j)) 4) (zf (fun j=>eN G (6*t+j)) 0) from by rw[show i=4 by omega] at hR;exact hR)
     have i4:¬(i:Int)<4:=by omega
     clear hR
     go_wp2
     go_loopw [16] (fun i wr=>∃k:Nat,k≤6∧i=.int .i64 k∧RA w W6 wr N (N+1+1) dB rB (nE G) q (cT t) (xT G t) (revK G (6*t+k)) A1 A2 A3 (zf (fun j=>vN G (4*t+j)) 4) (zf (fun j=>fN G (4*t+j)) 4) (zf (fun j=>eN G (6*t+j)) k)) (fun i _=>6-(intOf i).toNat)
     case atStart=>exact⟨0,by omega,rfl,HR.out⟩
     case round=>
      clear HR
      obtain⟨k,hk,rfl,hR⟩:=hrel
      rcases Nat.lt_or_ge k 6 with hk6 | hk6
      ·have k0:0≤(k:Int):=by omega
       have k6:(k:Int)<6:=by omega
       obtain⟨J,hJ⟩:∃J,J=6*t+k:=⟨_,rfl⟩
       have hJe:6*(t:Int)+(k:Int)=(J:Int):=by omega
       have hJn:J<M6:=by have:=HM.out.2.1;omega
       have hcE:eN G J<nE G:=eN_lt' HOK.out (by have:=HM.out.2.1;omega)
       obtain⟨c,hc⟩:∃c,c=eN G J:=⟨_,rfl⟩
       have ce:wr.cell? ⟨de,J,none⟩=some (.int .i64 (c:Nat)):=by rw[hc];exact (hR.rk.kp.row H6.out.2.1 (by omega)).cell (i:=J) (by have:=HM.out.2.1;omega)
       have c3:=hR.a3.cell hk6
       have f3:=hR.a3.frozen k
       have hrw:=fun W=>rends_walk k hk6 W
       have HRW:=Lib.hid hrw
       have HR:=Lib.hid hR
       have HC:=Hd2 hc hJ
       rw[←hc] at hcE
       clear hR hrw hc hJ
       go_wp2_with (go_at_call 90;(with_reducible refine (HRW.out _).mono ?_);rintro e w5 ⟨rfl,rfl⟩)
       refine zb3 fun W9 hW=>?_
       have h9:RA w W6 W9 N (N+1+1) dB rB (nE G) q (cT t) (xT G t) (revK G (6*t+k)) A1 A2 A3 (zf (fun j=>vN G (4*t+j)) 4) (zf (fun j=>fN G (4*t+j)) 4) (zf (fun j=>eN G (6*t+j)) (k+1)):=by
        rw[hW]
        exact (HR.out.set3 k _).congr (fun _ _=>rfl) (fun _ _=>rfl) (fun _=>rfl) (fun _ _=>rfl) (fun _ _=>rfl) (fun j _=>by rw[←zf_succ];simp only[HC.out.1,HC.out.2])
       obtain⟨gd,hd⟩:=h9.rk.sk.dr
       have e3:W9.drew.cell? ⟨N+1+1,3,none⟩=some (.slice (some ⟨dB,0,none⟩) (nE G) (nE G)):=h9.rk.sk.c3
       have ek:W9.drew.cell? ⟨A3,k,none⟩=some (.int .i64 (c:Nat)):=(h9.a3.cell hk6).trans (by simp[zf,HC.out.1,HC.out.2])
       have ed:W9.drew.cell? ⟨dB,c,none⟩=some (.int .i64 (gd c)):=hd.cell hcE
       have ef:W9.drew.frozen? ⟨dB,c,none⟩=false:=hd.frozen c
       have H9:=Lib.hid h9
       have c0:0≤(c:Int):=by omega
       have cE:(c:Int)<(nE G:Int):=by omega
       clear h9 hd hW HR ce c3 f3
       generalize gd c=D0 at *
       obtain⟨sz,hsz9⟩:∃sz,sz=nE G:=⟨_,rfl⟩
       rw[←hsz9] at e3 cE
       have HZ:=Lib.hid hsz9
       clear hsz9
       refine zc1 9 (by kernel_rfl) (by kernel_rfl) ?_
       simp only[List.take_succ_cons,List.take_zero,List.drop_succ_cons,List.drop_zero]
       repeat (refine wpStill_step (fun K hK=>?_);go_simp;refine hK _ ?_;clear hK K)
       refine wpStill_nil ?_
       go_wp2
       refine zb3 fun W10 hW=>?_
       have h10:RA w W6 W10 N (N+1+1) dB rB (nE G) q (cT t) (xT G t) (revK G (6*t+k)) A1 A2 A3 (zf (fun j=>vN G (4*t+j)) 4) (zf (fun j=>fN G (4*t+j)) 4) (zf (fun j=>eN G (6*t+j)) (k+1)):=by
        rw[hW]
        exact (H9.out.kept (zb0 _ _)).degree c _
       clear hW H9 e3 ek ed ef
       have hPA4:=pA_lt k
       have hPB4:=pB_lt k
       have hrv:=rv1_root HOK.out htn hk6
       generalize hPA:pA k=PA at *
       generalize hPB:pB k=PB at *
       clear hPA hPB HRW
       obtain⟨y1,hy1⟩:∃x,x=16*t:=⟨_,rfl⟩
       obtain⟨y2,hy2⟩:∃x,x=4*PA:=⟨_,rfl⟩
       obtain⟨y3,hy3⟩:∃x,x=y1+y2:=⟨_,rfl⟩
       obtain⟨y4,hy4⟩:∃x,x=16*t+4*PA+PB:=⟨_,rfl⟩
       obtain⟨z2,hz2'⟩:∃x,x=4*PB:=⟨_,rfl⟩
       obtain⟨z3,hz3⟩:∃x,x=y1+z2:=⟨_,rfl⟩
       obtain⟨z4,hz4⟩:∃x,x=16*t+4*PB+PA:=⟨_,rfl⟩
       have r1:IntKind.i64.wrap (16*(t:Int))=(y1:Int):=by rw[IntWalk.i64_in _ (by omega)];omega
       have r2:IntKind.i64.wrap (4*(PA:Int))=(y2:Int):=by rw[IntWalk.i64_in _ (by omega)];omega
       have r3:IntKind.i64.wrap ((y1:Int)+(y2:Int))=(y3:Int):=by rw[IntWalk.i64_in _ (by omega)];omega
       have r4:IntKind.i64.wrap ((y3:Int)+(PB:Int))=(y4:Int):=by rw[IntWalk.i64_in _ (by omega)];omega
       have r5:IntKind.i64.wrap (4*(PB:Int))=(z2:Int):=by rw[IntWalk.i64_in _ (by omega)];omega
       have r6:IntKind.i64.wrap ((y1:Int)+(z2:Int))=(z3:Int):=by rw[IntWalk.i64_in _ (by omega)];omega
       have r7:IntKind.i64.wrap ((z3:Int)+(PA:Int))=(z4:Int):=by rw[IntWalk.i64_in _ (by omega)];omega
       have y4m:y4<M16:=by have:=HM.out.2.2;omega
       have z4m:z4<M16:=by have:=HM.out.2.2;omega
       rw[←hy4,←hz4] at hrv
       have hrow:=h10.rk.kp.row H6.out.2.2.2.1 (show dd≠N+1+1 by omega)
       have d4:W10.drew.cell? ⟨dd,y4,none⟩=some (.int .i64 ((zb5 G).r2 y4:Nat)):=hrow.cell (i:=y4) (by have:=HM.out.2.2;omega)
       have d5:W10.drew.cell? ⟨dd,z4,none⟩=some (.int .i64 ((zb5 G).r2 z4:Nat)):=hrow.cell (i:=z4) (by have:=HM.out.2.2;omega)
       have H10:=Lib.hid h10
       clear h10 hrow hy1 hy2 hy3 hy4 hz2' hz3 hz4
       generalize (zb5 G).r2 y4=D1 at *
       generalize (zb5 G).r2 z4=D2 at *
       by_cases hD:D1=D2
       ·have hDq:=zd0 hD
        have HH:=Lib.hid (show rv1 G (6*t+k)=true by rw[hrv];simpa using hD)
        clear hD hrv
        go_still (by kernel_rfl)
        clear d4 d5
        go_wp2
        have e4:W10.drew.drew.cell? ⟨N+1+1,4,none⟩=some (.slice (some ⟨rB,0,none⟩) (nE G) (nE G)):=H10.out.rk.sk.c4
        have ek:W10.drew.drew.cell? ⟨A3,k,none⟩=some (.int .i64 (c:Nat)):=(H10.out.a3.cell hk6).trans (by simp[zf,HC.out.1,HC.out.2])
        have er:W10.drew.drew.cell? ⟨rB,c,none⟩=some (.bool (revK G (6*t+k) c)):=H10.out.rk.sk.rr.cell hcE
        have ef:W10.drew.drew.frozen? ⟨rB,c,none⟩=false:=H10.out.rk.sk.rr.frozen c
        rw[←HZ.out] at e4
        generalize revK G (6*t+k) c=RV at *
        refine zc1 6 (by kernel_rfl) (by kernel_rfl) ?_
        simp only[List.take_succ_cons,List.take_zero,List.drop_succ_cons,List.drop_zero]
        repeat (refine wpStill_step (fun K hK=>?_);go_simp;refine hK _ ?_;clear hK K)
        refine wpStill_nil ?_
        go_wp2
        go_roundw
        case rel=>
         refine⟨k+1,by omega,rfl,(((H10.out.kept (zb0 _ _)).kept (zb0 _ _)).reverse c).congr (fun _ _=>rfl) (fun _ _=>rfl) (fun i=>?_) (fun _ _=>rfl) (fun _ _=>rfl) (fun _ _=>rfl)⟩
         show _=revK G ((6*t+k)+1) i
         have hh:=HH.out
         simp only[revK,hh,if_true,HC.out.1,HC.out.2]
        case measure=>simp[intOf];omega
       ·have hDq:=zc4 hD
        have HH:=Lib.hid (show rv1 G (6*t+k)=false by rw[hrv];simpa using hD)
        clear hD hrv
        go_still (by kernel_rfl)
        clear d4 d5
        go_wp2
        go_roundw
        case rel=>
         refine⟨k+1,by omega,rfl,(H10.out.kept (zb0 _ _)).congr (fun _ _=>rfl) (fun _ _=>rfl) (fun i=>?_) (fun _ _=>rfl) (fun _ _=>rfl) (fun _ _=>rfl)⟩
         show _=revK G ((6*t+k)+1) i
         have hh:=HH.out
         simp only[revK,hh,Bool.false_eq_true,if_false]
        case measure=>simp[intOf];omega
      ·obtain rfl:k=6:=by omega
       have HR:=Lib.hid hR
       clear hR
       go_upto_region 26 with (fail)
       have v0:=HR.out.rk.sk.cc 0 (.inl rfl)
       have f0:=HR.out.rk.sk.fz 0
       obtain⟨e0,he0⟩:∃e,e=vN G (4*t+0):=⟨_,rfl⟩
       obtain⟨e1,he1⟩:∃e,e=vN G (4*t+1):=⟨_,rfl⟩
       obtain⟨e2,he2⟩:∃e,e=vN G (4*t+2):=⟨_,rfl⟩
       obtain⟨e3,he3⟩:∃e,e=vN G (4*t+3):=⟨_,rfl⟩
       have y0:wr.cell? ⟨A1,0,none⟩=some (.int .i64 (e0:Nat)):=by rw[he0];exact HR.out.a1.cell (by omega)
       have y1:wr.cell? ⟨A1,1,none⟩=some (.int .i64 (e1:Nat)):=by rw[he1];exact HR.out.a1.cell (by omega)
       have y2:wr.cell? ⟨A1,2,none⟩=some (.int .i64 (e2:Nat)):=by rw[he2];exact HR.out.a1.cell (by omega)
       have y3:wr.cell? ⟨A1,3,none⟩=some (.int .i64 (e3:Nat)):=by rw[he3];exact HR.out.a1.cell (by omega)
       have hys:xT G t 0++[.int .i64 (e0:Nat),.int .i64 (e1:Nat),.int .i64 (e2:Nat),.int .i64 (e3:Nat)]=ints (vN G) (4*(t+1)):=by
        rw[show 4*(t+1)=4*t+4 by omega,ints_add,he0,he1,he2,he3];rfl
       have HX:=Lib.hid hys
       have hga:=World.grownBy_alloc wr (.cells #[.int .i64 (e0:Nat),.int .i64 (e1:Nat),.int .i64 (e2:Nat),.int .i64 (e3:Nat)] 84) none
       have hSq:some (N+1+1)≠(q 0).ownBlock:=fun e=>(HR.out.rk.sk.ne 0 (.inl rfl) _ e.symm).1 rfl
       have hk:=HR.out.kept hga
       have HO:=Hd2 hga hk
       obtain⟨i0,hi0,hz0,hz1,hz2⟩:=info_parts info84
       clear hga hk hys he0 he1 he2 he3
       go_cut [] from 125 to 131 (fun wc=>∃q':Nat→Value,RA w W6 wc N (N+1+1) dB rB (nE G) q' (updO (cT t) 0 (t+1)) (updO (xT G t) 0 (ints (vN G) (4*(t+1)))) (revK G (6*t+6)) A1 A2 A3 (zf (fun j=>vN G (4*t+j)) 4) (zf (fun j=>fN G (4*t+j)) 4) (zf (fun j=>eN G (6*t+j)) 6))
       case first=>
        go_wp2_with (at_builtin;go_loud (refine (wpList_append_lies _ rfl (.tmp 126) (.tmp 128) 49 rfl 0 84 i0 _ 4 32 und49 hi0 hz0 hz1 hz2 rfl (by omega) (q 0) t _ rfl (HO.out.2.rk.sk.own 0 (.inl rfl)) ⟨wr.heap.size,0,none⟩ 1 1 [.int .i64 (e0:Nat),.int .i64 (e1:Nat),.int .i64 (e2:Nat),.int .i64 (e3:Nat)] rfl rfl (World.news_of_block (MapKept.heap_alloc wr _).1) (by simp[Value.oneCell']) (by omega) (by unfold maxLen;omega) (by omega) (by omega) (wr.heap.size+1) (by simp) ?_));intro g cap w1 h1 h2 h3 h4;have c1:=h2.cell (HO.out.2.rk.sk.cc 0 (.inl rfl)) hSq;have f1:=(h2.frozen_far ⟨N+1+1,0,none⟩ (za0 (HO.out.2.rk.sk.cc 0 (.inl rfl))) hSq).trans (HO.out.2.rk.sk.fz 0);have HA:=Hd3 h1 h2 h3;clear h1 h2 h3 h4)
        go_meet
        exact⟨_,RA.push (m:=t+1) HR.out (.inl rfl) rfl HO.out.1 (by rw[←HX.out];exact HA.out.1) HA.out.2.1 (HA.out.2.2.imp id (fun e=>by simpa using e))⟩
       case rest=>
        obtain⟨q,hR⟩:=hcut
        generalize wc=wr at *
        have HR:=Lib.hid hR
        clear hR HX HO hSq v0 f0 y0 y1 y2 y3
        have v0:=HR.out.rk.sk.cc 1 (.inr (.inl rfl))
        have f0:=HR.out.rk.sk.fz 1
        obtain⟨e0,he0⟩:∃e,e=eN G (6*t+0):=⟨_,rfl⟩
        obtain⟨e1,he1⟩:∃e,e=eN G (6*t+1):=⟨_,rfl⟩
        obtain⟨e2,he2⟩:∃e,e=eN G (6*t+2):=⟨_,rfl⟩
        obtain⟨e3,he3⟩:∃e,e=eN G (6*t+3):=⟨_,rfl⟩
        obtain⟨e4,he4⟩:∃e,e=eN G (6*t+4):=⟨_,rfl⟩
        obtain⟨e5,he5⟩:∃e,e=eN G (6*t+5):=⟨_,rfl⟩
        have y0:wr.cell? ⟨A3,0,none⟩=some (.int .i64 (e0:Nat)):=by rw[he0];exact HR.out.a3.cell (by omega)
        have y1:wr.cell? ⟨A3,1,none⟩=some (.int .i64 (e1:Nat)):=by rw[he1];exact HR.out.a3.cell (by omega)
        have y2:wr.cell? ⟨A3,2,none⟩=some (.int .i64 (e2:Nat)):=by rw[he2];exact HR.out.a3.cell (by omega)
        have y3:wr.cell? ⟨A3,3,none⟩=some (.int .i64 (e3:Nat)):=by rw[he3];exact HR.out.a3.cell (by omega)
        have y4:wr.cell? ⟨A3,4,none⟩=some (.int .i64 (e4:Nat)):=by rw[he4];exact HR.out.a3.cell (by omega)
        have y5:wr.cell? ⟨A3,5,none⟩=some (.int .i64 (e5:Nat)):=by rw[he5];exact HR.out.a3.cell (by omega)
        have hys:xT G t 1++[.int .i64 (e0:Nat),.int .i64 (e1:Nat),.int .i64 (e2:Nat),.int .i64 (e3:Nat),.int .i64 (e4:Nat),.int .i64 (e5:Nat)]=ints (eN G) (6*(t+1)):=by
         rw[show 6*(t+1)=6*t+6 by omega,ints_add,he0,he1,he2,he3,he4,he5];rfl
        have HX:=Lib.hid hys
        have hga:=World.grownBy_alloc wr (.cells #[.int .i64 (e0:Nat),.int .i64 (e1:Nat),.int .i64 (e2:Nat),.int .i64 (e3:Nat),.int .i64 (e4:Nat),.int .i64 (e5:Nat)] 162) none
        have hSq:some (N+1+1)≠(q 1).ownBlock:=fun e=>(HR.out.rk.sk.ne 1 (.inr (.inl rfl)) _ e.symm).1 rfl
        have hk:=HR.out.kept hga
        have HO:=Hd2 hga hk
        obtain⟨i0,hi0,hz0,hz1,hz2⟩:=info_parts info162
        clear hga hk hys he0 he1 he2 he3 he4 he5
        go_upto_region 27 with (fail)
        go_cut [] from 131 to 137 (fun wc=>∃q':Nat→Value,RA w W6 wc N (N+1+1) dB rB (nE G) q' (updO (updO (cT t) 0 (t+1)) 1 (t+1)) (updO (updO (xT G t) 0 (ints (vN G) (4*(t+1)))) 1 (ints (eN G) (6*(t+1)))) (revK G (6*t+6)) A1 A2 A3 (zf (fun j=>vN G (4*t+j)) 4) (zf (fun j=>fN G (4*t+j)) 4) (zf (fun j=>eN G (6*t+j)) 6))
        case first=>
         go_wp2_with (at_builtin;go_loud (refine (wpList_append_lies _ rfl (.tmp 132) (.tmp 134) 50 rfl 0 162 i0 _ 6 48 und50 hi0 hz0 hz1 hz2 rfl (by omega) (q 1) t _ rfl (HO.out.2.rk.sk.own 1 (.inr (.inl rfl))) ⟨wr.heap.size,0,none⟩ 1 1 [.int .i64 (e0:Nat),.int .i64 (e1:Nat),.int .i64 (e2:Nat),.int .i64 (e3:Nat),.int .i64 (e4:Nat),.int .i64 (e5:Nat)] rfl rfl (World.news_of_block (MapKept.heap_alloc wr _).1) (by simp[Value.oneCell']) (by omega) (by unfold maxLen;omega) (by omega) (by omega) (wr.heap.size+1) (by simp) ?_));intro g cap w1 h1 h2 h3 h4;have c1:=h2.cell (HO.out.2.rk.sk.cc 1 (.inr (.inl rfl))) hSq;have f1:=(h2.frozen_far ⟨N+1+1,1,none⟩ (za0 (HO.out.2.rk.sk.cc 1 (.inr (.inl rfl)))) hSq).trans (HO.out.2.rk.sk.fz 1);have HA:=Hd3 h1 h2 h3;clear h1 h2 h3 h4)
         go_meet
         exact⟨_,RA.push (m:=t+1) HR.out (.inr (.inl rfl)) rfl HO.out.1 (by rw[←HX.out];exact HA.out.1) HA.out.2.1 (HA.out.2.2.imp id (fun e=>by simpa using e))⟩
        case rest=>
         obtain⟨q,hR⟩:=hcut
         generalize wc=wr at *
         have HR:=Lib.hid hR
         clear hR HX HO hSq v0 f0 y0 y1 y2 y3 y4 y5
         have v0:=HR.out.rk.sk.cc 2 (.inr (.inr (.inl rfl)))
         have f0:=HR.out.rk.sk.fz 2
         obtain⟨e0,he0⟩:∃e,e=fN G (4*t+0):=⟨_,rfl⟩
         obtain⟨e1,he1⟩:∃e,e=fN G (4*t+1):=⟨_,rfl⟩
         obtain⟨e2,he2⟩:∃e,e=fN G (4*t+2):=⟨_,rfl⟩
         obtain⟨e3,he3⟩:∃e,e=fN G (4*t+3):=⟨_,rfl⟩
         have y0:wr.cell? ⟨A2,0,none⟩=some (.int .i64 (e0:Nat)):=by rw[he0];exact HR.out.a2.cell (by omega)
         have y1:wr.cell? ⟨A2,1,none⟩=some (.int .i64 (e1:Nat)):=by rw[he1];exact HR.out.a2.cell (by omega)
         have y2:wr.cell? ⟨A2,2,none⟩=some (.int .i64 (e2:Nat)):=by rw[he2];exact HR.out.a2.cell (by omega)
         have y3:wr.cell? ⟨A2,3,none⟩=some (.int .i64 (e3:Nat)):=by rw[he3];exact HR.out.a2.cell (by omega)
         have hys:xT G t 2++[.int .i64 (e0:Nat),.int .i64 (e1:Nat),.int .i64 (e2:Nat),.int .i64 (e3:Nat)]=ints (fN G) (4*(t+1)):=by
          rw[show 4*(t+1)=4*t+4 by omega,ints_add,he0,he1,he2,he3];rfl
         have HX:=Lib.hid hys
         have hga:=World.grownBy_alloc wr (.cells #[.int .i64 (e0:Nat),.int .i64 (e1:Nat),.int .i64 (e2:Nat),.int .i64 (e3:Nat)] 84) none
         have hSq:some (N+1+1)≠(q 2).ownBlock:=fun e=>(HR.out.rk.sk.ne 2 (.inr (.inr (.inl rfl))) _ e.symm).1 rfl
         have hk:=HR.out.kept hga
         have HO:=Hd2 hga hk
         obtain⟨i0,hi0,hz0,hz1,hz2⟩:=info_parts info84
         clear hga hk hys he0 he1 he2 he3
         go_wp2_with (at_builtin;go_loud (refine (wpList_append_lies _ rfl (.tmp 138) (.tmp 140) 49 rfl 0 84 i0 _ 4 32 und49 hi0 hz0 hz1 hz2 rfl (by omega) (q 2) t _ rfl (HO.out.2.rk.sk.own 2 (.inr (.inr (.inl rfl)))) ⟨wr.heap.size,0,none⟩ 1 1 [.int .i64 (e0:Nat),.int .i64 (e1:Nat),.int .i64 (e2:Nat),.int .i64 (e3:Nat)] rfl rfl (World.news_of_block (MapKept.heap_alloc wr _).1) (by simp[Value.oneCell']) (by omega) (by unfold maxLen;omega) (by omega) (by omega) (wr.heap.size+1) (by simp) ?_));intro g cap w1 h1 h2 h3 h4;have c1:=h2.cell (HO.out.2.rk.sk.cc 2 (.inr (.inr (.inl rfl)))) hSq;have f1:=(h2.frozen_far ⟨N+1+1,2,none⟩ (za0 (HO.out.2.rk.sk.cc 2 (.inr (.inr (.inl rfl))))) hSq).trans (HO.out.2.rk.sk.fz 2);have HA:=Hd3 h1 h2 h3;clear h1 h2 h3 h4)
         go_roundw
         case rel=>exact⟨t+1,_,by omega,rfl,(RA.push (m:=t+1) (ys:=ints (fN G) (4*(t+1))) HR.out (.inr (.inr (.inl rfl))) rfl HO.out.1 (by rw[←HX.out];exact HA.out.1) HA.out.2.1 (HA.out.2.2.imp id (fun e=>by simpa using e))).rk.congr (fun o ho=>by rcases ho with rfl | rfl | rfl | rfl<;>simp[updO,cT]) (fun o ho=>by rcases ho with rfl | rfl | rfl | rfl<;>simp[updO,xT]) (fun i=>by rw[show 6*(t+1)=6*t+6 by omega])⟩
         case measure=>simp[intOf];omega
  ·obtain rfl:t=G.n:=by omega
   have H8:=Lib.hid (show RK w W6 wr N (N+1+1) dB rB (nE G) q (updO (cT G.n) 5 0) (updO (xT G G.n) 5 []) (revK G (6*G.n)) from hR.congr (fun o ho=>by rcases ho with rfl | rfl | rfl | rfl<;>simp[updO,cT]) (fun o ho=>by rcases ho with rfl | rfl | rfl | rfl<;>simp[updO,xT]) (fun _=>rfl))
   clear hR
   go_wp2
   go_loopw [19] (fun i wr=>∃(k:Nat) (q:Nat→Value) (x5:List Value),k≤nV G∧i=.int .i64 k∧RK w W6 wr N (N+1+1) dB rB (nE G) q (updO (cT G.n) 5 k) (updO (xT G G.n) 5 x5) (revK G (6*G.n))) (fun i _=>nV G-(intOf i).toNat)
   case atStart=>exact⟨0,q,[],by omega,rfl,H8.out⟩
   case round=>
    clear H8
    obtain⟨k,q,x5,hk,rfl,hR⟩:=hrel
    rcases Nat.lt_or_ge k (nV G) with hkn | hkn
    ·have c5:=hR.sk.cc 5 (.inr (.inr (.inr rfl)))
     have f5:=hR.sk.fz 5
     have cb:wr.cell? ⟨N,0,none⟩=some (.slice a G.n cap):=hR.kp.cell H6.out.2.2.2.2.1 (by omega)
     have L1:=rlink_walk G HOK.out wr.drew _ (HG1.out wr.drew (za5 hR.bel)) dv _ (show zb7 wr.drew dv (4*G.n) (fun i=>(vN G i:Nat)) from hR.kp.row H6.out.1 (by omega)) dd _ (show zb7 wr.drew dd (16*G.n) (fun i=>((zb5 G).r2 i:Nat)) from hR.kp.row H6.out.2.2.2.1 (by omega)) (k:Int)
     rw[←HM.out.1,←HM.out.2.2] at L1
     have LL:=Lib.hid L1
     have HK:=Lib.hid hR
     have hSq:some (N+1+1)≠(q 5).ownBlock:=fun e=>(hR.sk.ne 5 (.inr (.inr (.inr rfl))) _ e.symm).1 rfl
     clear hR L1
     obtain⟨i0,hi0,hz0,hz1,hz2⟩:=info_parts info164
     go_wp2
     go_region_law (first
      |(go_simp;go_at_call 95;(with_reducible refine LL.out.mono ?_);rintro e W9 ⟨⟨d0,d1,d2,d3,d4,d5,rfl⟩,hb9⟩;have s9:=Lib.hid ((HK.out.kept (zb0 _ _)).kept (Below.grown0 hb9));have c59:=s9.out.sk.cc 5 (.inr (.inr (.inr rfl)));have c59a:=za4 c59;clear hb9)
      |(refine step_append_lies _ rfl (.tmp 150) (.tmp 156) 52 rfl 0 164 i0 _ 6 40 und52 hi0 hz0 hz1 hz2 rfl (by omega) (q 5) k _ rfl ((s9.out.kept (World.grownBy_alloc W9 (.cells #[.int .i64 d0,.int .i64 d1,.int .i64 d2,.int .i64 d3,.bool d4,.bool d5] 164) none)).sk.own 5 (.inr (.inr (.inr rfl)))) ⟨W9.heap.size,0,none⟩ 1 1 [.int .i64 d0,.int .i64 d1,.int .i64 d2,.int .i64 d3,.bool d4,.bool d5] rfl rfl (World.news_of_block (cs:=#[.int .i64 d0,.int .i64 d1,.int .i64 d2,.int .i64 d3,.bool d4,.bool d5]) (MapKept.heap_alloc W9 _).1) (by simp[Value.oneCell']) (by omega) (by unfold maxLen;omega) (by omega) (by omega) (W9.heap.size+1) (by simp) ?_;intro g cp w1 h1 h2 h3 h4;have c1:=h2.cell ((s9.out.kept (World.grownBy_alloc W9 _ none)).sk.cc 5 (.inr (.inr (.inr rfl)))) hSq;have f1:=(h2.frozen_far ⟨N+1+1,5,none⟩ (za0 ((s9.out.kept (World.grownBy_alloc W9 _ none)).sk.cc 5 (.inr (.inr (.inr rfl))))) hSq).trans ((s9.out.kept (World.grownBy_alloc W9 _ none)).sk.fz 5);have HA:=Hd3 h1 h2 h3;clear h1 h2 h3 h4))
     all_goals go_wp2_with fail
     all_goals exact⟨⟨k+1,_,_,by omega,rfl,(RK.push (m:=k+1) s9.out (.inr (.inr (.inr rfl))) rfl (World.grownBy_alloc W9 _ none) HA.out.1 HA.out.2.1 (HA.out.2.2.imp id (fun e=>by simpa using e))).congr (fun o _=>by rw[updO_updO]) (fun o _=>by rw[updO_updO]) (fun _=>rfl)⟩,by simp[intOf];omega⟩
    ·obtain rfl:k=nV G:=by omega
     obtain⟨g0,p0,e0⟩:∃ga cp,q 0=.slice ga G.n cp:=za8 (hR.sk.own 0 (.inl rfl))
     obtain⟨g1,p1,e1⟩:∃ga cp,q 1=.slice ga G.n cp:=za8 (hR.sk.own 1 (.inr (.inl rfl)))
     obtain⟨g2,p2,e2⟩:∃ga cp,q 2=.slice ga G.n cp:=za8 (hR.sk.own 2 (.inr (.inr (.inl rfl))))
     obtain⟨g5,p5,e5⟩:∃ga cp,q 5=.slice ga (nV G) cp:=za8 (hR.sk.own 5 (.inr (.inr (.inr rfl))))
     have c0:=hR.sk.cc 0 (.inl rfl)
     have c1:=hR.sk.cc 1 (.inr (.inl rfl))
     have c2:=hR.sk.cc 2 (.inr (.inr (.inl rfl)))
     have c5:=hR.sk.cc 5 (.inr (.inr (.inr rfl)))
     rw[e0] at c0
     rw[e1] at c1
     rw[e2] at c2
     rw[e5] at c5
     have c3:=hR.sk.c3
     have c4:=hR.sk.c4
     have zc:∀o,o<6→wr.cell? ⟨N+1,o,none⟩=some (.slice none 0 0):=fun o ho=>hR.kp.cell (H6.out.2.2.2.2.2.1 o ho) (by omega)
     have zf:∀o,wr.frozen? ⟨N+1,o,none⟩=false:=fun o=>hR.kp.frozen (by omega) (H6.out.2.2.2.2.2.2.1 o) (by omega)
     have z0:=zc 0 (by omega)
     have z1:=zc 1 (by omega)
     have z2:=zc 2 (by omega)
     have z3:=zc 3 (by omega)
     have z4:=zc 4 (by omega)
     have z5:=zc 5 (by omega)
     have HK:=Hd5 hR e0 e1 e2 e5
     clear hR zc e0 e1 e2 e5
     go_wp2
     refine bodyPost_ret (v:=.agg #[.slice g0 G.n p0,.slice g1 G.n p1,.slice g2 G.n p2,.slice (some ⟨dB,0,none⟩) (nE G) (nE G),.slice (some ⟨rB,0,none⟩) (nE G) (nE G),.slice g5 (nV G) p5]) (by simp[results,Try.results53,go_sem, *]) rfl ⟨_,rfl,?_,?_⟩
     ·have hlo:=HK.out.1.lo
      have gg:∀(W:World) (o:Nat) (u:Value),SK W 0 (N+1+1) dB rB (nE G) q (updO (cT G.n) 5 (nV G)) (updO (xT G G.n) 5 x5) (revK G (6*G.n))→SK (W.setCell ⟨N+1,o,none⟩ u) 0 (N+1+1) dB rB (nE G) q (updO (cT G.n) 5 (nV G)) (updO (xT G G.n) 5 x5) (revK G (6*G.n)):=fun W o u h=>
       h.far (za1 W (N+1) o u) (by omega) (by omega) (by omega) (fun i hi e=>by have:=HK.out.1.hi i hi _ e;omega)
      have hsk:=gg _ 5 (.slice g5 (nV G) p5) (gg _ 4 (.slice (some ⟨rB,0,none⟩) (nE G) (nE G)) (gg _ 3 (.slice (some ⟨dB,0,none⟩) (nE G) (nE G)) (gg _ 2 (.slice g2 G.n p2) (gg _ 1 (.slice g1 G.n p1) (gg _ 0 (.slice g0 G.n p0) HK.out.1.sk)))))
      have up:∀o,okO o→∀k,(q o).ownBlock=some k→N≤k:=fun o ho k hk=>by have:=HK.out.1.hi o ho k hk;omega
      have h0:=ownsRow_up (hsk.own 0 (.inl rfl)) (up 0 (.inl rfl))
      have h1:=ownsRow_up (hsk.own 1 (.inr (.inl rfl))) (up 1 (.inr (.inl rfl)))
      have h2:=ownsRow_up (hsk.own 2 (.inr (.inr (.inl rfl)))) (up 2 (.inr (.inr (.inl rfl))))
      have h5:=ownsRow_up (hsk.own 5 (.inr (.inr (.inr rfl)))) (up 5 (.inr (.inr (.inr rfl))))
      rw[HK.out.2.1] at h0
      rw[HK.out.2.2.1] at h1
      rw[HK.out.2.2.2.1] at h2
      rw[HK.out.2.2.2.2] at h5
      rw[hN]
      exact⟨⟨_,_,_,_,dB,rB,x5,rfl,h0,h1,h2,h5,hsk.dr,hsk.rr,by omega,by omega⟩⟩
     ·rw[hN]
      exact six_below HK.out.1.bel (by omega) _ _ _ _ _ _
end
end Go.Proofs.Ytlckpgahijlmoaa
