/- Classes of copies of a gluing: the loops stay inside each copy. Plain laws. -/
import Derived.Test.YtlckpgahijlmoaaQ10
import Derived.Test.YtlckpgahijlmoaaQ12
import Derived.Test.YtlckpgahijlmoaaQ18
import Derived.StillTailTactics
set_option maxRecDepth 100000
set_option maxHeartbeats 8000000
namespace Go.Proofs.Ytlckpgahijlmoaa
section
open Go.RowKit Go.Shelf
def trF (G:Gl)(k:Nat)(r:Nat→Nat):Nat→Nat:=if G.tet k<0 then r else joinR r k (4*G.T k+G.P k (k % 4))
theorem trF_ge {G:Gl}{k:Nat}{r:Nat→Nat}(h:¬G.tet k<0):trF G k r=joinR r k (4*G.T k+G.P k (k % 4)):=if_neg h
theorem trF_lt {G:Gl}{k:Nat}{r:Nat→Nat}(h:G.tet k<0):trF G k r=r:=if_pos h
structure FT (w W:World)(N n:Nat)(a:Option Addr)(cap m:Nat)(r:Nat→Nat):Prop where
 c0:W.cell? ⟨N,0,none⟩=some (.slice a n cap)
 ur:UR W (N+1) m r
 bel:Below N w W
section
variable {w W W':World}{N n:Nat}{a:Option Addr}{cap m:Nat}{r r':Nat→Nat}
theorem FT.below (h:FT w W N n a cap m r)(hb:Below W.heap.size W W')(hN:N≤W.heap.size):FT w W' N n a cap m r:=
 ⟨(hb.cell (p:=⟨N,0,none⟩) (za0 h.c0)).trans h.c0,h.ur.below hb h.ur.lt,h.bel.trans (hb.mono hN)⟩
theorem FT.lt (h:FT w W N n a cap m r):N+1<W.heap.size:=h.ur.lt
theorem FT.al (h:FT w W N n a cap m r)(o:Obj):FT w (W.alloc o) N n a cap m r:=h.below ((Below.refl _ _).alloc (Nat.le_refl _) _) (by have:=h.lt;omega)
theorem FT.dr (h:FT w W N n a cap m r):FT w W.drew N n a cap m r:=h.below (za5 (Below.refl _ _)) (by have:=h.lt;omega)
theorem FT.join (h:FT w W N n a cap m r)(hu:UR W' (N+1) m r')(hg:W.grownBy W' (some (N+1))):FT w W' N n a cap m r':=
 ⟨hg.cell h.c0 (by simp),hu,zc8 h.bel hg (by omega) (by have:=h.lt;omega)⟩
end
theorem ze0 {α:Type}(f:Nat→α→α)(s:α)(m:Nat):lp f s (m+1)=f m (lp f s m):=rfl
theorem four_n (n:Nat):((4*n:Nat):Int)=4*(n:Int):=by omega
theorem triangles_walk (G:Gl)(hok:za9 G=true)(w:World)(v:Value)(hv:GlAt w.heap.size w v G) :
  Calls Try.prog 50 #[.agg #[v]] w fun e w'=>∃d,e=.returned (.tuple #[.slice (some ⟨d,0,none⟩) (4*G.n) (4*G.n),.int .i64 (cnt (lp (trF G) id (4*G.n)) (4*G.n):Nat)])∧w.heap.size≤d∧zb7 w' d (4*G.n) (fun i=>(cnt (lp (trF G) id (4*G.n)) (lp (trF G) id (4*G.n) i):Nat))∧Below w.heap.size w w':=by
 have hn:G.n≤1000:=by simp only[za9,Bool.and_eq_true,decide_eq_true_eq] at hok;exact hok.1
 have HO:=Lib.hid hok;clear hok
 have HV:=Lib.hid hv
 obtain⟨a,b,off,cap,rfl,ha,hc⟩:=hv
 have HGC:=Hd2 ha hc;clear ha hc
 have hs:=fun W=>singles_walk (4*G.n) (by omega) W
 rw[four_n] at hs
 have HS:=Lib.hid hs;clear hs
 go_enter Try.func50,Try.ntmps50
 go_wp2_with fail
 refine (HS.out _).mono ?_
 rintro e w1 ⟨rfl,hu,hb⟩
 have h1:FT w w1 w.heap.size G.n a cap (4*G.n) id:=by
  simp only[World.size_alloc] at hu hb
  exact⟨(hb.cell (p:=⟨w.heap.size,0,none⟩) (by simp)).trans (World.cell?_alloc_at _ _ _ _ rfl),hu,((Below.refl _ w).alloc (Nat.le_refl _) _).trans (hb.mono (by omega))⟩
 simp only[World.size_alloc] at *
 have H1:=Lib.hid h1
 have c0:=h1.c0
 clear hb hu h1
 generalize hN:w.heap.size=N at *
 go_wp2
 go_loopw [17] (fun i wr=>∃t:Nat,t≤G.n∧i=.int .i64 t∧FT w wr N G.n a cap (4*G.n) (lp (trF G) id (4*t))) (fun i _=>G.n-(intOf i).toNat)
 case atStart=>exact⟨0,by omega,rfl,H1.out⟩
 case round=>
  clear H1 c0
  obtain⟨t,ht,rfl,hR⟩:=hrel
  have HR:=Lib.hid hR
  rcases Nat.lt_or_ge t G.n with htn | htn
  ·obtain⟨hga,hgc⟩:=HGC.out
   obtain⟨rfl,hbB⟩:=hga (by omega)
   have hrow:=ze5 (W:=wr) (b:=b) (off:=off) (fun k hk=>⟨(hR.bel.cell (p:=⟨b,_,none⟩) (by show b<N;omega)).trans (hgc k hk).1,fun i hi=>(hR.bel.cell (p:=⟨b,_,none⟩) (by show b<N;omega)).trans ((hgc k hk).2 i hi)⟩) t htn
   have hrg:=hrow.range
   have t0:0≤(t:Int):=by omega
   have tn:(t:Int)<(G.n:Int):=by omega
   clear hR hga hgc hrow
   go_wp2_with (first|(refine zb8 rfl 88 (.tmp 20) rfl b (off+t*20) rfl (rowA G t) _ hrg Try.underlying88 rfl (by kernel_rfl) ?_)|(refine zc2 (w:=wr) rfl 88 (.tmp 6) (.tmp 21) rfl _ (rowA G t) rfl rfl (by kernel_rfl) rfl (zf9 G t) ?_)|(refine zf4 (w:=wr) rfl 88 (.tmp 6) rfl (rowA G t) 4 87 rfl Try.underlying88 (by kernel_rfl) ?_))
   refine zb3 fun W3 hW3=>?_
   have h3:FT w W3 N G.n (some ⟨b,off,none⟩) cap (4*G.n) (lp (trF G) id (4*t+0)):=by rw[hW3];exact HR.out.al _
   have H3:=Lib.hid h3
   clear h3 hW3 HR hrg
   go_loopw [23] (fun i wr=>∃f:Nat,f≤4∧i=.int .i64 f∧FT w wr N G.n (some ⟨b,off,none⟩) cap (4*G.n) (lp (trF G) id (4*t+f))) (fun i _=>4-(intOf i).toNat)
   case atStart=>exact⟨0,by omega,rfl,H3.out⟩
   case round=>
    clear H3
    obtain⟨f,hf,rfl,hR⟩:=hrel
    have HR:=Lib.hid hR
    clear hR
    rcases Nat.lt_or_ge f 4 with hf4 | hf4
    ·have hix:=fun w=>ze2 G t f hf4 w
     unfold faceA at hix
     have hkk:4*t+f<4*G.n:=by omega
     by_cases hneg:G.tet (4*t+f)<0
     ·have q1:decide (0≤G.tet (4*t+f))=false:=by simp;omega
      have HX:=Lib.hid hneg
      clear hneg
      generalize hT:G.tet (4*t+f)=T at *
      have HT:=Lib.hid hT;clear hT
      go_wp2
      go_roundw
      case rel=>exact⟨f+1,by omega,rfl,by
       have e:lp (trF G) id (4*t+(f+1))=lp (trF G) id (4*t+f):=by
        rw[←Nat.add_assoc,ze0]
        exact trF_lt (by rw[HT.out];exact HX.out)
       rw[e];exact HR.out.al _⟩
      case measure=>simp[intOf];omega
     ·obtain⟨e1,e2,e3⟩:=zc6 HO.out hkk hneg
      have e4:=e3 f hf4
      have q1:decide (0≤G.tet (4*t+f))=true:=by simp;omega
      obtain⟨A,hA⟩:∃A:Nat,A=4*t:=⟨_,rfl⟩
      obtain⟨I,hI⟩:∃I:Nat,I=4*t+f:=⟨_,rfl⟩
      obtain⟨C,hC⟩:∃C:Nat,C=4*G.T (4*t+f):=⟨_,rfl⟩
      obtain⟨J,hJ⟩:∃J:Nat,J=4*G.T (4*t+f)+G.P (4*t+f) f:=⟨_,rfl⟩
      have hst:lp (trF G) id (4*t+(f+1))=joinR (lp (trF G) id (4*t+f)) I J:=by
       rw[←Nat.add_assoc,ze0,hI,hJ]
       rw[trF_ge hneg,show (4*t+f) % 4=f by omega]
      have HX:=Lib.hid hst
      have hJn:J<4*G.n:=by omega
      have hIn:I<4*G.n:=by omega
      clear hneg hst
      rw[e1] at q1 hix
      have hE:∀j v,(zd3 (G.T (4*t+f):Nat) (G.pm (4*t+f)))[j]?=some v→(wr.alloc (.cells (zd3 (G.T (4*t+f):Nat) (G.pm (4*t+f))) 87)).cell? ⟨wr.heap.size,j,none⟩=some v:=fun j v hv=>(World.cell?_alloc_at _ _ _ _ rfl).trans hv
      have e0:=hE 0 _ rfl
      have ef:=hE (1+f) _ (zf8 _ _ f hf4)
      rw[e4.1] at ef
      have HE:=Hd2 e0 ef
      unfold zd3 at HE
      clear hE e0 ef
      generalize hT:G.T (4*t+f)=T at *
      generalize hP:G.P (4*t+f) f=P at *
      have w1:IntKind.i64.wrap (4*(t:Int))=(A:Int):=by rw[IntWalk.i64_in _ (by omega)];omega
      have w2:IntKind.i64.wrap ((A:Int)+(f:Int))=(I:Int):=by rw[IntWalk.i64_in _ (by omega)];omega
      have w3:IntKind.i64.wrap (4*(T:Int))=(C:Int):=by rw[IntWalk.i64_in _ (by omega)];omega
      have w4:IntKind.i64.wrap ((C:Int)+(P:Int))=(J:Int):=by rw[IntWalk.i64_in _ (by omega)];omega
      have HT:=Hd2 hT hP;clear hT hP e1 e3 hA hI hC hJ
      have f0:0≤(f:Int):=by omega
      have f4:(f:Int)<4:=by omega
      go_wp2
      refine zb3 fun W4 hW=>?_
      obtain⟨E,hEE⟩:∃E,E=wr.heap.size:=⟨_,rfl⟩
      have h4:FT w W4.drew N G.n (some ⟨b,off,none⟩) cap (4*G.n) (lp (trF G) id (4*t+f))∧W4.drew.cell? ⟨E,0,none⟩=some (.int .i64 (T:Int))∧W4.drew.cell? ⟨E,1+f,none⟩=some (.int .i64 (P:Int)):=by
       rw[hW,hEE];exact⟨(HR.out.al _).dr,HE.out.1,HE.out.2⟩
      rw[←hEE]
      obtain⟨h5,c0,c1⟩:=h4
      have H4:=Lib.hid h5
      clear h5 hW HE HR hix hEE
      refine zc1 13 (by kernel_rfl) (by kernel_rfl) ?_
      simp only[List.take_succ_cons,List.take_zero,List.drop_succ_cons,List.drop_zero]
      repeat (refine wpStill_step (fun K hK=>?_);go_simp;refine hK _ ?_;clear hK K)
      refine wpStill_nil ?_
      go_wp2_with fail
      refine (ze9 _ _ _ I J hIn hJn (by omega) _ H4.out.ur).mono ?_
      rintro e w2 ⟨rfl,h2,g2⟩
      have H2:=Lib.hid (H4.out.join h2 g2)
      clear h2 g2
      go_wp2
      go_roundw
      case rel=>exact⟨f+1,by omega,rfl,by rw[HX.out];exact H2.out⟩
      case measure=>simp[intOf];omega
    ·obtain rfl:f=4:=by omega
     go_wp2
     go_roundw
     case rel=>exact⟨t+1,by omega,rfl,HR.out⟩
     case measure=>simp[intOf];omega
  ·obtain rfl:t=G.n:=by omega
   clear hR
   go_wp2_with fail
   refine (numbered_walk _ _ _ (by omega) _ HR.out.ur).mono ?_
   rintro e w2 ⟨rfl,hi,hb⟩
   have HI:=Hd2 hi hb
   have hlt:=HR.out.lt
   clear hi hb
   go_wp2
   go_ret2
   rw[hN]
   exact⟨_,rfl,by omega,HI.out.1,HR.out.bel.trans (HI.out.2.mono (by omega))⟩
end
section
open Go.RowKit Go.Shelf
def vtI (G:Gl)(k i:Nat)(r:Nat→Nat):Nat→Nat:=if i=k % 4 then r else joinR r (4*(k / 4)+i) (4*G.T k+G.P k i)
def vtF (G:Gl)(k:Nat)(r:Nat→Nat):Nat→Nat:=if G.tet k<0 then r else lp (vtI G k) r 4
theorem vtF_ge {G:Gl}{k:Nat}{r:Nat→Nat}(h:¬G.tet k<0):vtF G k r=lp (vtI G k) r 4:=if_neg h
theorem vtF_lt {G:Gl}{k:Nat}{r:Nat→Nat}(h:G.tet k<0):vtF G k r=r:=if_pos h
theorem vtI_ne {G:Gl}{k i:Nat}{r:Nat→Nat}(h:¬i=k % 4):vtI G k i r=joinR r (4*(k / 4)+i) (4*G.T k+G.P k i):=if_neg h
theorem vtI_eq {G:Gl}{k i:Nat}{r:Nat→Nat}(h:i=k % 4):vtI G k i r=r:=if_pos h
structure FE (w W:World)(N n:Nat)(a:Option Addr)(cap m E:Nat)(T:Int)(p:Nat→Nat)(r:Nat→Nat):Prop where
 ft:FT w W N n a cap m r
 e0:W.cell? ⟨E,0,none⟩=some (.int .i64 T)
 e1:∀i,i<4→W.cell? ⟨E,1+i,none⟩=some (.int .i64 (p i:Nat))
 lt:N+1<E
section
variable {w W W':World}{N n:Nat}{a:Option Addr}{cap m E:Nat}{T:Int}{p:Nat→Nat}{r r':Nat→Nat}
theorem FE.join (h:FE w W N n a cap m E T p r)(hu:UR W' (N+1) m r')(hg:W.grownBy W' (some (N+1))):FE w W' N n a cap m E T p r':=
 ⟨h.ft.join hu hg,hg.cell h.e0 (fun e=>by have:=h.lt;have:=Option.some.inj e;simp only at this;omega),fun i hi=>hg.cell (h.e1 i hi) (fun e=>by have:=h.lt;have:=Option.some.inj e;simp only at this;omega),h.lt⟩
theorem FE.dr (h:FE w W N n a cap m E T p r):FE w W.drew N n a cap m E T p r:=⟨h.ft.dr,h.e0,h.e1,h.lt⟩
theorem FE.of {q:Nat→Int}(h:FT w W N n a cap m r)(hp:∀i,i<4→q i=((p i:Nat):Int)):FE w (W.alloc (.cells (zd3 T q) 87)) N n a cap m W.heap.size T p r:=by
 have hE:∀j v,(zd3 T q)[j]?=some v→(W.alloc (.cells (zd3 T q) 87)).cell? ⟨W.heap.size,j,none⟩=some v:=fun j v hv=>(World.cell?_alloc_at _ _ _ _ rfl).trans hv
 exact⟨h.al _,hE 0 _ rfl,fun i hi=>by rw[hE _ _ (zf8 T q i hi),hp i hi],h.lt⟩
end
theorem vertices_walk (G:Gl)(hok:za9 G=true)(w:World)(v:Value)(hv:GlAt w.heap.size w v G) :
  Calls Try.prog 48 #[.agg #[v]] w fun e w'=>∃d,e=.returned (.tuple #[.slice (some ⟨d,0,none⟩) (4*G.n) (4*G.n),.int .i64 (cnt (lp (vtF G) id (4*G.n)) (4*G.n):Nat)])∧w.heap.size≤d∧zb7 w' d (4*G.n) (fun i=>(cnt (lp (vtF G) id (4*G.n)) (lp (vtF G) id (4*G.n) i):Nat))∧Below w.heap.size w w':=by
 have hn:G.n≤1000:=by simp only[za9,Bool.and_eq_true,decide_eq_true_eq] at hok;exact hok.1
 have HO:=Lib.hid hok;clear hok
 have HV:=Lib.hid hv
 obtain⟨a,b,off,cap,rfl,ha,hc⟩:=hv
 have HGC:=Hd2 ha hc;clear ha hc
 have hs:=fun W=>singles_walk (4*G.n) (by omega) W
 rw[four_n] at hs
 have HS:=Lib.hid hs;clear hs
 go_enter Try.func48,Try.ntmps48
 go_wp2_with fail
 refine (HS.out _).mono ?_
 rintro e w1 ⟨rfl,hu,hb⟩
 have h1:FT w w1 w.heap.size G.n a cap (4*G.n) id:=by
  simp only[World.size_alloc] at hu hb
  exact⟨(hb.cell (p:=⟨w.heap.size,0,none⟩) (by simp)).trans (World.cell?_alloc_at _ _ _ _ rfl),hu,((Below.refl _ w).alloc (Nat.le_refl _) _).trans (hb.mono (by omega))⟩
 simp only[World.size_alloc] at *
 have H1:=Lib.hid h1
 have c0:=h1.c0
 clear hb hu h1
 generalize hN:w.heap.size=N at *
 go_wp2
 go_loopw [18] (fun i wr=>∃t:Nat,t≤G.n∧i=.int .i64 t∧FT w wr N G.n a cap (4*G.n) (lp (vtF G) id (4*t))) (fun i _=>G.n-(intOf i).toNat)
 case atStart=>exact⟨0,by omega,rfl,H1.out⟩
 case round=>
  clear H1 c0
  obtain⟨t,ht,rfl,hR⟩:=hrel
  have HR:=Lib.hid hR
  rcases Nat.lt_or_ge t G.n with htn | htn
  ·obtain⟨hga,hgc⟩:=HGC.out
   obtain⟨rfl,hbB⟩:=hga (by omega)
   have hrow:=ze5 (W:=wr) (b:=b) (off:=off) (fun k hk=>⟨(hR.bel.cell (p:=⟨b,_,none⟩) (by show b<N;omega)).trans (hgc k hk).1,fun i hi=>(hR.bel.cell (p:=⟨b,_,none⟩) (by show b<N;omega)).trans ((hgc k hk).2 i hi)⟩) t htn
   have hrg:=hrow.range
   have t0:0≤(t:Int):=by omega
   have tn:(t:Int)<(G.n:Int):=by omega
   clear hR hga hgc hrow
   go_wp2_with (first|(refine zb8 rfl 88 (.tmp 21) rfl b (off+t*20) rfl (rowA G t) _ hrg Try.underlying88 rfl (by kernel_rfl) ?_)|(refine zc2 (w:=wr) rfl 88 (.tmp 6) (.tmp 22) rfl _ (rowA G t) rfl rfl (by kernel_rfl) rfl (zf9 G t) ?_)|(refine zf4 (w:=wr) rfl 88 (.tmp 6) rfl (rowA G t) 4 87 rfl Try.underlying88 (by kernel_rfl) ?_))
   refine zb3 fun W3 hW3=>?_
   have h3:FT w W3 N G.n (some ⟨b,off,none⟩) cap (4*G.n) (lp (vtF G) id (4*t+0)):=by rw[hW3];exact HR.out.al _
   have H3:=Lib.hid h3
   clear h3 hW3 HR hrg
   go_loopw [24] (fun i wr=>∃f:Nat,f≤4∧i=.int .i64 f∧FT w wr N G.n (some ⟨b,off,none⟩) cap (4*G.n) (lp (vtF G) id (4*t+f))) (fun i _=>4-(intOf i).toNat)
   case atStart=>exact⟨0,by omega,rfl,H3.out⟩
   case round=>
    clear H3
    obtain⟨f,hf,rfl,hR⟩:=hrel
    have HR:=Lib.hid hR
    clear hR
    rcases Nat.lt_or_ge f 4 with hf4 | hf4
    ·have hix:=fun w=>ze2 G t f hf4 w
     unfold faceA at hix
     have hkk:4*t+f<4*G.n:=by omega
     by_cases hneg:G.tet (4*t+f)<0
     ·have q1:decide (0≤G.tet (4*t+f))=false:=by simp;omega
      have HX:=Lib.hid hneg
      clear hneg
      generalize hT:G.tet (4*t+f)=T at *
      have HT:=Lib.hid hT;clear hT
      have hE:∀j v,(zd3 T (G.pm (4*t+f)))[j]?=some v→(wr.alloc (.cells (zd3 T (G.pm (4*t+f))) 87)).cell? ⟨wr.heap.size,j,none⟩=some v:=fun j v hv=>(World.cell?_alloc_at _ _ _ _ rfl).trans hv
      have HE:=Lib.hid (hE 0 _ rfl)
      unfold zd3 at HE
      clear hE
      go_wp2
      refine zb3 fun W4 hW=>?_
      obtain⟨E,hEE⟩:∃E,E=wr.heap.size:=⟨_,rfl⟩
      have h4:FT w W4 N G.n (some ⟨b,off,none⟩) cap (4*G.n) (lp (vtF G) id (4*t+f))∧W4.cell? ⟨E,0,none⟩=some (.int .i64 T):=by
       rw[hW,hEE];exact⟨HR.out.al _,HE.out⟩
      rw[←hEE]
      have H4:=Lib.hid h4
      clear h4 hW HE HR hix hEE
      go_loopw [9] (fun i wr=>i=.int .i64 0∧FT w wr N G.n (some ⟨b,off,none⟩) cap (4*G.n) (lp (vtF G) id (4*t+f))∧wr.cell? ⟨E,0,none⟩=some (.int .i64 T)) (fun _ _=>0)
      case atStart=>exact⟨rfl,H4.out⟩
      case round=>
       clear H4
       obtain⟨rfl,hR,c0⟩:=hrel
       have HR:=Lib.hid hR
       clear hR
       go_wp2
       go_roundw
       case rel=>exact⟨f+1,by omega,rfl,by
        have e:lp (vtF G) id (4*t+(f+1))=lp (vtF G) id (4*t+f):=by
         rw[←Nat.add_assoc,ze0]
         exact vtF_lt (by rw[HT.out];exact HX.out)
        rw[e];exact HR.out⟩
       case measure=>simp[intOf];omega
     ·obtain⟨e1,e2,e3⟩:=zc6 HO.out hkk hneg
      have q1:decide (0≤G.tet (4*t+f))=true:=by simp;omega
      have HX:=Hd2 hneg e3
      rw[e1] at q1 hix
      have hfe:=FE.of (q:=G.pm (4*t+f)) (T:=(G.T (4*t+f):Nat)) HR.out (fun i hi=>(e3 i hi).1)
      have HE:=Lib.hid hfe
      unfold zd3 at HE
      clear hneg hfe e1 e3
      generalize hT:G.T (4*t+f)=T at *
      have HT:=Lib.hid hT;clear hT
      go_wp2
      refine zb3 fun W4 hW=>?_
      obtain⟨E,hEE⟩:∃E,E=wr.heap.size:=⟨_,rfl⟩
      have h4:FE w W4 N G.n (some ⟨b,off,none⟩) cap (4*G.n) E (T:Nat) (G.P (4*t+f)) (lp (vtI G (4*t+f)) (lp (vtF G) id (4*t+f)) 0):=by
       rw[hW,hEE];exact HE.out
      rw[←hEE]
      have H4:=Lib.hid h4
      clear h4 hW HE HR hix hEE
      go_loopw [9] (fun i wr=>∃j:Nat,j≤4∧i=.int .i64 j∧FE w wr N G.n (some ⟨b,off,none⟩) cap (4*G.n) E (T:Nat) (G.P (4*t+f)) (lp (vtI G (4*t+f)) (lp (vtF G) id (4*t+f)) j)) (fun i _=>4-(intOf i).toNat)
      case atStart=>exact⟨0,by omega,rfl,H4.out⟩
      case round=>
       clear H4
       obtain⟨j,hj,rfl,hR⟩:=hrel
       have c0:=hR.e0
       have HR:=Lib.hid hR
       rcases Nat.lt_or_ge j 4 with hj4 | hj4
       ·have c1:=hR.e1 j hj4
        clear hR
        by_cases ejf:j=f
        ·have b1:=zd9 ejf
         have HJ:=Lib.hid ejf;clear ejf c1
         go_wp2
         go_roundw
         case rel=>exact⟨j+1,by omega,rfl,by rw[ze0,vtI_eq (by rw[HJ.out];omega)];exact HR.out⟩
         case measure=>simp[intOf];omega
        ·have b1:=ze4 ejf
         have c2:wr.drew.cell? ⟨E,0,none⟩=some (.int .i64 ((T:Nat):Int)):=c0
         have c3:wr.drew.cell? ⟨E,1+j,none⟩=some (.int .i64 ((G.P (4*t+f) j:Nat):Int)):=c1
         have hPj:=(HX.out.2 j hj4).2
         obtain⟨A,hA⟩:∃A:Nat,A=4*t:=⟨_,rfl⟩
         obtain⟨I,hI⟩:∃I:Nat,I=4*t+j:=⟨_,rfl⟩
         obtain⟨C,hC⟩:∃C:Nat,C=4*T:=⟨_,rfl⟩
         obtain⟨J,hJ⟩:∃J:Nat,J=4*T+G.P (4*t+f) j:=⟨_,rfl⟩
         have HST:=Lib.hid (show lp (vtI G (4*t+f)) (lp (vtF G) id (4*t+f)) (j+1)=joinR (lp (vtI G (4*t+f)) (lp (vtF G) id (4*t+f)) j) I J by
          rw[ze0,vtI_ne (by omega),show (4*t+f) / 4=t by omega,hI,hJ,HT.out])
         have hJn:J<4*G.n:=by omega
         have hIn:I<4*G.n:=by omega
         generalize hP:G.P (4*t+f) j=P at c1 c3 hPj hJ
         have w1:IntKind.i64.wrap (4*(t:Int))=(A:Int):=by rw[IntWalk.i64_in _ (by omega)];omega
         have w2:IntKind.i64.wrap ((A:Int)+(j:Int))=(I:Int):=by rw[IntWalk.i64_in _ (by omega)];omega
         have w3:IntKind.i64.wrap (4*(T:Int))=(C:Int):=by rw[IntWalk.i64_in _ (by omega)];omega
         have w4:IntKind.i64.wrap ((C:Int)+(P:Int))=(J:Int):=by rw[IntWalk.i64_in _ (by omega)];omega
         have j0:0≤(j:Int):=by omega
         have j4:(j:Int)<4:=by omega
         clear hP hA hI hC hJ ejf
         go_wp2
         refine zc1 13 (by kernel_rfl) (by kernel_rfl) ?_
         simp only[List.take_succ_cons,List.take_zero,List.drop_succ_cons,List.drop_zero]
         repeat (refine wpStill_step (fun K hK=>?_);go_simp;refine hK _ ?_;clear hK K)
         refine wpStill_nil ?_
         clear c0 c1 c2 c3
         go_wp2_with fail
         refine (ze9 _ _ _ I J hIn hJn (by omega) _ HR.out.dr.ft.ur).mono ?_
         rintro e w2 ⟨rfl,h2,g2⟩
         have H2:=Lib.hid (HR.out.dr.join h2 g2)
         clear h2 g2
         go_wp2
         go_roundw
         case rel=>exact⟨j+1,by omega,rfl,by rw[HST.out];exact H2.out⟩
         case measure=>simp[intOf];omega
       ·obtain rfl:j=4:=by omega
        clear hR
        go_wp2
        go_roundw
        case rel=>exact⟨f+1,by omega,rfl,by
         have e:lp (vtF G) id (4*t+(f+1))=lp (vtI G (4*t+f)) (lp (vtF G) id (4*t+f)) 4:=by
          rw[←Nat.add_assoc,ze0]
          exact vtF_ge (by have:=HX.out.1;omega)
         rw[e];exact HR.out.ft⟩
        case measure=>simp[intOf];omega
    ·obtain rfl:f=4:=by omega
     go_wp2
     go_roundw
     case rel=>exact⟨t+1,by omega,rfl,HR.out⟩
     case measure=>simp[intOf];omega
  ·obtain rfl:t=G.n:=by omega
   clear hR
   go_wp2_with fail
   refine (numbered_walk _ _ _ (by omega) _ HR.out.ur).mono ?_
   rintro e w2 ⟨rfl,hi,hb⟩
   have HI:=Hd2 hi hb
   have hlt:=HR.out.lt
   clear hi hb
   go_wp2
   go_ret2
   rw[hN]
   exact⟨_,rfl,by omega,HI.out.1,HR.out.bel.trans (HI.out.2.mono (by omega))⟩
end
section
open Go.RowKit Go.Shelf
theorem redge_lt (i j:Nat)(h:i<j)(hj:j<4)(w:World):Calls Try.prog 91 #[.int .i64 (i:Int),.int .i64 (j:Int)] w fun e w'=>e=.returned (.int .i64 (edN i j:Nat))∧w'=w:=by
 have h6:(i=0∧j=1)∨(i=0∧j=2)∨(i=0∧j=3)∨(i=1∧j=2)∨(i=1∧j=3)∨(i=2∧j=3):=by omega
 rcases h6 with ⟨rfl,rfl⟩ | ⟨rfl,rfl⟩ | ⟨rfl,rfl⟩ | ⟨rfl,rfl⟩ | ⟨rfl,rfl⟩ | ⟨rfl,rfl⟩
 all_goals
  clear h hj
  go_enter Try.func91,Try.ntmps91
  go_wp2
  go_ret
  exact⟨rfl,rfl⟩
theorem redge_walk (i j:Nat)(hi:i<4)(hj:j<4)(h:i≠j)(w:World):Calls Try.prog 91 #[.int .i64 (i:Int),.int .i64 (j:Int)] w fun e w'=>e=.returned (.int .i64 (edN i j:Nat))∧w'=w:=by
 rcases Nat.lt_or_ge i j with e | e
 ·exact redge_lt i j e hj w
 ·have h6:(i=1∧j=0)∨(i=2∧j=0)∨(i=3∧j=0)∨(i=2∧j=1)∨(i=3∧j=1)∨(i=3∧j=2):=by omega
  have c:=fun (i j:Nat) (h:i<j) (hj:j<4) (w:World)=>redge_lt i j h hj w
  rcases h6 with ⟨rfl,rfl⟩ | ⟨rfl,rfl⟩ | ⟨rfl,rfl⟩ | ⟨rfl,rfl⟩ | ⟨rfl,rfl⟩ | ⟨rfl,rfl⟩
  ·have C:=Lib.hid (fun w=>c 0 1 (by omega) (by omega) w)
   clear c e h hi hj
   go_enter Try.func91,Try.ntmps91
   go_wp2_with (go_at_call 91;go_loud (refine (C.out _).mono ?_);rintro e w2 ⟨rfl,rfl⟩)
   go_ret
   exact⟨rfl,rfl⟩
  ·have C:=Lib.hid (fun w=>c 0 2 (by omega) (by omega) w)
   clear c e h hi hj
   go_enter Try.func91,Try.ntmps91
   go_wp2_with (go_at_call 91;go_loud (refine (C.out _).mono ?_);rintro e w2 ⟨rfl,rfl⟩)
   go_ret
   exact⟨rfl,rfl⟩
  ·have C:=Lib.hid (fun w=>c 0 3 (by omega) (by omega) w)
   clear c e h hi hj
   go_enter Try.func91,Try.ntmps91
   go_wp2_with (go_at_call 91;go_loud (refine (C.out _).mono ?_);rintro e w2 ⟨rfl,rfl⟩)
   go_ret
   exact⟨rfl,rfl⟩
  ·have C:=Lib.hid (fun w=>c 1 2 (by omega) (by omega) w)
   clear c e h hi hj
   go_enter Try.func91,Try.ntmps91
   go_wp2_with (go_at_call 91;go_loud (refine (C.out _).mono ?_);rintro e w2 ⟨rfl,rfl⟩)
   go_ret
   exact⟨rfl,rfl⟩
  ·have C:=Lib.hid (fun w=>c 1 3 (by omega) (by omega) w)
   clear c e h hi hj
   go_enter Try.func91,Try.ntmps91
   go_wp2_with (go_at_call 91;go_loud (refine (C.out _).mono ?_);rintro e w2 ⟨rfl,rfl⟩)
   go_ret
   exact⟨rfl,rfl⟩
  ·have C:=Lib.hid (fun w=>c 2 3 (by omega) (by omega) w)
   clear c e h hi hj
   go_enter Try.func91,Try.ntmps91
   go_wp2_with (go_at_call 91;go_loud (refine (C.out _).mono ?_);rintro e w2 ⟨rfl,rfl⟩)
   go_ret
   exact⟨rfl,rfl⟩
theorem ends_fact (e:Nat)(he:e<6):pA e<pB e∧pB e<4∧edN (pA e) (pB e)=e∧∀k m,k<m→m<4→edN k m=e→k=pA e∧m=pB e:=by
 have key:∀e:Fin 6,pA e.val<pB e.val∧pB e.val<4∧edN (pA e.val) (pB e.val)=e.val∧∀k m:Fin 4,k<m→edN k.val m.val=e.val→k.val=pA e.val∧m.val=pB e.val:=by decide +kernel
 obtain⟨h1,h2,h3,h4⟩:=key ⟨e,he⟩
 exact⟨h1,h2,h3,fun k m hkm hm hh=>h4 ⟨k,by omega⟩ ⟨m,hm⟩ hkm hh⟩
theorem rends_walk (e:Nat)(he:e<6)(w:World):Calls Try.prog 90 #[.int .i64 (e:Int)] w fun x w'=>x=.returned (.tuple #[.int .i64 (pA e:Nat),.int .i64 (pB e:Nat)])∧w'=w:=by
 obtain⟨f1,f2,f3,f4⟩:=ends_fact e he
 have HF:=Hd2 f3 f4
 clear f3 f4
 generalize ha:pA e=a at *
 generalize hb:pB e=b at *
 have HAB:=Hd2 ha hb
 clear ha hb
 go_enter Try.func90,Try.ntmps90
 go_wp2
 go_loop [4] (fun x=>∃k:Nat,k≤a∧x=.int .i64 k) (fun x=>4-(intOf x).toNat)
 case atStart=>exact⟨0,by omega,rfl⟩
 case round=>
  obtain⟨k,hk,rfl⟩:=hrel
  have k4:(k:Int)<4:=by omega
  go_wp2
  go_loop [5] (fun x=>∃m:Nat,k<m∧m≤4∧(k=a→m≤b)∧x=.int .i64 m) (fun x=>4-(intOf x).toNat)
  case atStart=>exact⟨k+1,by omega,by omega,fun _=>by omega,by simp⟩
  case round=>
   obtain⟨m,hkm,hm,hab,rfl⟩:=hrel
   have HB:=Lib.hid hab;clear hab
   rcases Nat.lt_or_ge m 4 with hm4 | hm4
   ·have m4:(m:Int)<4:=by omega
    go_wp2_with fail
    refine (redge_lt k m hkm hm4 _).mono ?_
    rintro x w2 ⟨rfl,rfl⟩
    by_cases hq:edN k m=e
    ·have q1:=zd0 hq
     obtain⟨rfl,rfl⟩:=HF.out.2 k m hkm hm4 hq
     clear hq
     go_wp2
     go_ret2
     exact⟨rfl,rfl⟩
    ·have q1:=zc4 hq
     have HQ:=Lib.hid hq;clear hq
     go_wp2
     go_round
     case rel=>exact⟨m+1,by omega,by omega,fun e1=>by
      have h2:=HB.out e1
      by_cases e2:m=b
      ·exact absurd (by rw[e1,e2];exact HF.out.1) HQ.out
      ·omega,rfl⟩
     case measure=>simp[intOf];omega
   ·obtain rfl:m=4:=by omega
    go_wp2
    go_round
    case rel=>exact⟨k+1,by
     by_cases e1:k=a
     ·have:=HB.out e1;omega
     ·omega,rfl⟩
    case measure=>simp[intOf];omega
end
section
open Go.RowKit Go.Shelf
def erE (G:Gl)(k e:Nat)(r:Nat→Nat):Nat→Nat:=if pA e=k % 4∨pB e=k % 4 then r else joinR r (6*(k / 4)+e) (6*G.T k+edN (G.P k (pA e)) (G.P k (pB e)))
def erF (G:Gl)(k:Nat)(r:Nat→Nat):Nat→Nat:=if G.tet k<0 then r else lp (erE G k) r 6
theorem erF_ge {G:Gl}{k:Nat}{r:Nat→Nat}(h:¬G.tet k<0):erF G k r=lp (erE G k) r 6:=if_neg h
theorem erF_lt {G:Gl}{k:Nat}{r:Nat→Nat}(h:G.tet k<0):erF G k r=r:=if_pos h
theorem erE_ne {G:Gl}{k e:Nat}{r:Nat→Nat}(h1:pA e≠k % 4)(h2:pB e≠k % 4):erE G k e r=joinR r (6*(k / 4)+e) (6*G.T k+edN (G.P k (pA e)) (G.P k (pB e))):=if_neg (by simp[h1,h2])
theorem erE_eq {G:Gl}{k e:Nat}{r:Nat→Nat}(h:pA e=k % 4∨pB e=k % 4):erE G k e r=r:=if_pos h
theorem six_n (n:Nat):((6*n:Nat):Int)=6*(n:Int):=by omega
theorem edges_walk (G:Gl)(hok:za9 G=true)(w:World)(v:Value)(hv:GlAt w.heap.size w v G) :
  Calls Try.prog 49 #[.agg #[v]] w fun e w'=>∃d,e=.returned (.tuple #[.slice (some ⟨d,0,none⟩) (6*G.n) (6*G.n),.int .i64 (cnt (lp (erF G) id (4*G.n)) (6*G.n):Nat)])∧w.heap.size≤d∧zb7 w' d (6*G.n) (fun i=>(cnt (lp (erF G) id (4*G.n)) (lp (erF G) id (4*G.n) i):Nat))∧Below w.heap.size w w':=by
 have hn:G.n≤1000:=by simp only[za9,Bool.and_eq_true,decide_eq_true_eq] at hok;exact hok.1
 have HO:=Lib.hid hok;clear hok
 have HV:=Lib.hid hv
 obtain⟨a,b,off,cap,rfl,ha,hc⟩:=hv
 have HGC:=Hd2 ha hc;clear ha hc
 have hs:=fun W=>singles_walk (6*G.n) (by omega) W
 rw[six_n] at hs
 have HS:=Lib.hid hs;clear hs
 go_enter Try.func49,Try.ntmps49
 go_wp2_with fail
 refine (HS.out _).mono ?_
 rintro e w1 ⟨rfl,hu,hb⟩
 have h1:FT w w1 w.heap.size G.n a cap (6*G.n) id:=by
  simp only[World.size_alloc] at hu hb
  exact⟨(hb.cell (p:=⟨w.heap.size,0,none⟩) (by simp)).trans (World.cell?_alloc_at _ _ _ _ rfl),hu,((Below.refl _ w).alloc (Nat.le_refl _) _).trans (hb.mono (by omega))⟩
 simp only[World.size_alloc] at *
 have H1:=Lib.hid h1
 have c0:=h1.c0
 clear hb hu h1
 generalize hN:w.heap.size=N at *
 go_wp2
 go_loopw [20] (fun i wr=>∃t:Nat,t≤G.n∧i=.int .i64 t∧FT w wr N G.n a cap (6*G.n) (lp (erF G) id (4*t))) (fun i _=>G.n-(intOf i).toNat)
 case atStart=>exact⟨0,by omega,rfl,H1.out⟩
 case round=>
  clear H1 c0
  obtain⟨t,ht,rfl,hR⟩:=hrel
  have HR:=Lib.hid hR
  rcases Nat.lt_or_ge t G.n with htn | htn
  ·obtain⟨hga,hgc⟩:=HGC.out
   obtain⟨rfl,hbB⟩:=hga (by omega)
   have hrow:=ze5 (W:=wr) (b:=b) (off:=off) (fun k hk=>⟨(hR.bel.cell (p:=⟨b,_,none⟩) (by show b<N;omega)).trans (hgc k hk).1,fun i hi=>(hR.bel.cell (p:=⟨b,_,none⟩) (by show b<N;omega)).trans ((hgc k hk).2 i hi)⟩) t htn
   have hrg:=hrow.range
   have t0:0≤(t:Int):=by omega
   have tn:(t:Int)<(G.n:Int):=by omega
   clear hR hga hgc hrow
   go_wp2_with (first|(refine zb8 rfl 88 (.tmp 23) rfl b (off+t*20) rfl (rowA G t) _ hrg Try.underlying88 rfl (by kernel_rfl) ?_)|(refine zc2 (w:=wr) rfl 88 (.tmp 6) (.tmp 24) rfl _ (rowA G t) rfl rfl (by kernel_rfl) rfl (zf9 G t) ?_)|(refine zf4 (w:=wr) rfl 88 (.tmp 6) rfl (rowA G t) 4 87 rfl Try.underlying88 (by kernel_rfl) ?_))
   refine zb3 fun W3 hW3=>?_
   have h3:FT w W3 N G.n (some ⟨b,off,none⟩) cap (6*G.n) (lp (erF G) id (4*t+0)):=by rw[hW3];exact HR.out.al _
   have H3:=Lib.hid h3
   clear h3 hW3 HR hrg
   go_loopw [26] (fun i wr=>∃f:Nat,f≤4∧i=.int .i64 f∧FT w wr N G.n (some ⟨b,off,none⟩) cap (6*G.n) (lp (erF G) id (4*t+f))) (fun i _=>4-(intOf i).toNat)
   case atStart=>exact⟨0,by omega,rfl,H3.out⟩
   case round=>
    clear H3
    obtain⟨f,hf,rfl,hR⟩:=hrel
    have HR:=Lib.hid hR
    clear hR
    rcases Nat.lt_or_ge f 4 with hf4 | hf4
    ·have hix:=fun w=>ze2 G t f hf4 w
     unfold faceA at hix
     have hkk:4*t+f<4*G.n:=by omega
     by_cases hneg:G.tet (4*t+f)<0
     ·have q1:decide (0≤G.tet (4*t+f))=false:=by simp;omega
      have HX:=Lib.hid hneg
      clear hneg
      generalize hT:G.tet (4*t+f)=T at *
      have HT:=Lib.hid hT;clear hT
      have hE:∀j v,(zd3 T (G.pm (4*t+f)))[j]?=some v→(wr.alloc (.cells (zd3 T (G.pm (4*t+f))) 87)).cell? ⟨wr.heap.size,j,none⟩=some v:=fun j v hv=>(World.cell?_alloc_at _ _ _ _ rfl).trans hv
      have HE:=Lib.hid (hE 0 _ rfl)
      unfold zd3 at HE
      clear hE
      go_wp2
      refine zb3 fun W4 hW=>?_
      obtain⟨E,hEE⟩:∃E,E=wr.heap.size:=⟨_,rfl⟩
      have h4:FT w W4 N G.n (some ⟨b,off,none⟩) cap (6*G.n) (lp (erF G) id (4*t+f))∧W4.cell? ⟨E,0,none⟩=some (.int .i64 T):=by
       rw[hW,hEE];exact⟨HR.out.al _,HE.out⟩
      rw[←hEE]
      have H4:=Lib.hid h4
      clear h4 hW HE HR hix hEE
      go_loopw [9] (fun i wr=>i=.int .i64 0∧FT w wr N G.n (some ⟨b,off,none⟩) cap (6*G.n) (lp (erF G) id (4*t+f))∧wr.cell? ⟨E,0,none⟩=some (.int .i64 T)) (fun _ _=>0)
      case atStart=>exact⟨rfl,H4.out⟩
      case round=>
       clear H4
       obtain⟨rfl,hR,c0⟩:=hrel
       have HR:=Lib.hid hR
       clear hR
       go_wp2
       go_roundw
       case rel=>exact⟨f+1,by omega,rfl,by
        have e:lp (erF G) id (4*t+(f+1))=lp (erF G) id (4*t+f):=by
         rw[←Nat.add_assoc,ze0]
         exact erF_lt (by rw[HT.out];exact HX.out)
        rw[e];exact HR.out⟩
       case measure=>simp[intOf];omega
     ·obtain⟨e1,e2,e3⟩:=zc6 HO.out hkk hneg
      have q1:decide (0≤G.tet (4*t+f))=true:=by simp;omega
      have HX:=Hd3 hneg e3 (fun i j hi hj hij=>ok_inj HO.out hkk hneg i j hi hj hij)
      rw[e1] at q1 hix
      have hfe:=FE.of (q:=G.pm (4*t+f)) (T:=(G.T (4*t+f):Nat)) HR.out (fun i hi=>(e3 i hi).1)
      have HE:=Lib.hid hfe
      unfold zd3 at HE
      clear hneg hfe e1 e3
      generalize hT:G.T (4*t+f)=T at *
      have HT:=Lib.hid hT;clear hT
      go_wp2
      refine zb3 fun W4 hW=>?_
      obtain⟨E,hEE⟩:∃E,E=wr.heap.size:=⟨_,rfl⟩
      have h4:FE w W4 N G.n (some ⟨b,off,none⟩) cap (6*G.n) E (T:Nat) (G.P (4*t+f)) (lp (erE G (4*t+f)) (lp (erF G) id (4*t+f)) 0):=by
       rw[hW,hEE];exact HE.out
      rw[←hEE]
      have H4:=Lib.hid h4
      clear h4 hW HE HR hix hEE
      go_loopw [9] (fun i wr=>∃j:Nat,j≤6∧i=.int .i64 j∧FE w wr N G.n (some ⟨b,off,none⟩) cap (6*G.n) E (T:Nat) (G.P (4*t+f)) (lp (erE G (4*t+f)) (lp (erF G) id (4*t+f)) j)) (fun i _=>6-(intOf i).toNat)
      case atStart=>exact⟨0,by omega,rfl,H4.out⟩
      case round=>
       clear H4
       obtain⟨j,hj,rfl,hR⟩:=hrel
       have c0:=hR.e0
       have HR:=Lib.hid hR
       rcases Nat.lt_or_ge j 6 with hj4 | hj4
       ·have j6:(j:Int)<6:=by omega
        obtain⟨x,hx⟩:∃x,x=pA j:=⟨_,rfl⟩
        obtain⟨y,hy⟩:∃y,y=pB j:=⟨_,rfl⟩
        have hE:=ends_fact j hj4
        have hrw:=fun W=>rends_walk j hj4 W
        rw[←hx,←hy] at hE hrw
        obtain⟨hxy,hy4,-,-⟩:=hE
        have hx4:x<4:=by omega
        have HRW:=Lib.hid hrw
        have HXY:=Hd2 hx hy
        have c1:=hR.e1 x hx4
        have c2:=hR.e1 y hy4
        clear hR hrw hx hy
        by_cases exf:x=f
        ·have b1:=zd9 exf
         have HJ:=Lib.hid exf;clear exf c1 c2
         go_wp2_with (go_at_call 90;(with_reducible refine (HRW.out _).mono ?_);rintro e w5 ⟨rfl,rfl⟩)
         go_roundw
         case rel=>exact⟨j+1,by omega,rfl,by rw[ze0,erE_eq (.inl (by rw[←HXY.out.1,HJ.out];omega))];exact HR.out⟩
         case measure=>simp[intOf];omega
        ·have b1:=ze4 exf
         by_cases eyf:y=f
         ·have b2:=zd9 eyf
          have HJ:=Lib.hid eyf;clear exf eyf c1 c2
          go_wp2_with (go_at_call 90;(with_reducible refine (HRW.out _).mono ?_);rintro e w5 ⟨rfl,rfl⟩)
          go_roundw
          case rel=>exact⟨j+1,by omega,rfl,by rw[ze0,erE_eq (.inr (by rw[←HXY.out.2,HJ.out];omega))];exact HR.out⟩
          case measure=>simp[intOf];omega
         ·have b2:=ze4 eyf
          have d0:wr.drew.cell? ⟨E,0,none⟩=some (.int .i64 ((T:Nat):Int)):=c0
          have d1:wr.drew.cell? ⟨E,1+x,none⟩=some (.int .i64 ((G.P (4*t+f) x:Nat):Int)):=c1
          have d2:wr.drew.cell? ⟨E,1+y,none⟩=some (.int .i64 ((G.P (4*t+f) y:Nat):Int)):=c2
          have hPi:=(HX.out.2.1 x hx4).2
          have hPj:=(HX.out.2.1 y hy4).2
          have hPne:=HX.out.2.2 x y hx4 hy4 (by omega)
          have hed:=(edN_eq (G.P (4*t+f) x) (G.P (4*t+f) y) hPi hPj hPne).2
          have hcl:=fun W=>redge_walk (G.P (4*t+f) x) (G.P (4*t+f) y) hPi hPj hPne W
          obtain⟨A,hA⟩:∃A:Nat,A=6*t:=⟨_,rfl⟩
          obtain⟨I,hI⟩:∃I:Nat,I=6*t+j:=⟨_,rfl⟩
          obtain⟨C,hC⟩:∃C:Nat,C=6*T:=⟨_,rfl⟩
          obtain⟨J,hJ⟩:∃J:Nat,J=6*T+edN (G.P (4*t+f) x) (G.P (4*t+f) y):=⟨_,rfl⟩
          have HST:=Lib.hid (show lp (erE G (4*t+f)) (lp (erF G) id (4*t+f)) (j+1)=joinR (lp (erE G (4*t+f)) (lp (erF G) id (4*t+f)) j) I J by
           rw[ze0,erE_ne (by rw[←HXY.out.1];omega) (by rw[←HXY.out.2];omega),show (4*t+f) / 4=t by omega,hI,hJ,HT.out,←HXY.out.1,←HXY.out.2])
          have hJn:J<6*G.n:=by omega
          have hIn:I<6*G.n:=by omega
          generalize hQ:edN (G.P (4*t+f) x) (G.P (4*t+f) y)=Q at hed hcl hJ
          generalize hP:G.P (4*t+f) x=P at c1 d1 hcl
          generalize hP':G.P (4*t+f) y=P' at c2 d2 hcl
          have w1:IntKind.i64.wrap (6*(t:Int))=(A:Int):=by rw[IntWalk.i64_in _ (by omega)];omega
          have w2:IntKind.i64.wrap ((A:Int)+(j:Int))=(I:Int):=by rw[IntWalk.i64_in _ (by omega)];omega
          have w3:IntKind.i64.wrap (6*(T:Int))=(C:Int):=by rw[IntWalk.i64_in _ (by omega)];omega
          have w4:IntKind.i64.wrap ((C:Int)+(Q:Int))=(J:Int):=by rw[IntWalk.i64_in _ (by omega)];omega
          have x0:0≤(x:Int):=by omega
          have x4:(x:Int)<4:=by omega
          have y0:0≤(y:Int):=by omega
          have y4:(y:Int)<4:=by omega
          have HCL:=Lib.hid hcl
          clear hP hP' hQ hA hI hC hJ exf eyf hcl hPne hPi hPj hxy
          go_wp2_with (go_at_call 90;(with_reducible refine (HRW.out _).mono ?_);rintro e w5 ⟨rfl,rfl⟩)
          refine zc1 18 (by kernel_rfl) (by kernel_rfl) ?_
          simp only[List.take_succ_cons,List.take_zero,List.drop_succ_cons,List.drop_zero]
          repeat (refine wpStill_step (fun K hK=>?_);go_simp;refine hK _ ?_;clear hK K)
          still_call (HCL.out _)
          repeat (refine wpStill_step (fun K hK=>?_);go_simp;refine hK _ ?_;clear hK K)
          refine wpStill_nil ?_
          clear c0 c1 c2 d0 d1 d2
          go_wp2_with fail
          refine (ze9 _ _ _ I J hIn hJn (by omega) _ HR.out.dr.ft.ur).mono ?_
          rintro e w2 ⟨rfl,h2,g2⟩
          have H2:=Lib.hid (HR.out.dr.join h2 g2)
          clear h2 g2
          go_wp2
          go_roundw
          case rel=>exact⟨j+1,by omega,rfl,by rw[HST.out];exact H2.out⟩
          case measure=>simp[intOf];omega
       ·obtain rfl:j=6:=by omega
        clear hR
        go_wp2
        go_roundw
        case rel=>exact⟨f+1,by omega,rfl,by
         have e:lp (erF G) id (4*t+(f+1))=lp (erE G (4*t+f)) (lp (erF G) id (4*t+f)) 6:=by
          rw[←Nat.add_assoc,ze0]
          exact erF_ge (by have:=HX.out.1;omega)
         rw[e];exact HR.out.ft⟩
        case measure=>simp[intOf];omega
    ·obtain rfl:f=4:=by omega
     go_wp2
     go_roundw
     case rel=>exact⟨t+1,by omega,rfl,HR.out⟩
     case measure=>simp[intOf];omega
  ·obtain rfl:t=G.n:=by omega
   clear hR
   go_wp2_with fail
   refine (numbered_walk _ _ _ (by omega) _ HR.out.ur).mono ?_
   rintro e w2 ⟨rfl,hi,hb⟩
   have HI:=Hd2 hi hb
   have hlt:=HR.out.lt
   clear hi hb
   go_wp2
   go_ret2
   rw[hN]
   exact⟨_,rfl,by omega,HI.out.1,HR.out.bel.trans (HI.out.2.mono (by omega))⟩
end
section
open Go.RowKit Go.Shelf
end
section
theorem blk {M s x:Nat}(hx:x<M):(s*M+x) / M=s∧(s*M+x) % M=x:=by
 have h0:0<M:=by omega
 rw[Nat.mul_comm,Nat.mul_add_div h0,Nat.mul_add_mod,Nat.div_eq_of_lt hx,Nat.mod_eq_of_lt hx];simp
end
end Go.Proofs.Ytlckpgahijlmoaa
