/- R02's orientable: it returns, and turns nothing. -/
import Derived.Test.YtlckpgahijlmoaaQ19
import Derived.Test.YtlckpgahijlmoaaQ15
import Derived.Test.YtlckpgahijlmoaaQ17
import Derived.Test.YtlckpgahijlmoaaQ08
import Derived.Test.YtlckpgahijlmoaaQ18
set_option maxRecDepth 100000
set_option maxHeartbeats 8000000
namespace Go.Proofs.Ytlckpgahijlmoaa
section
open Go.RowKit Go.Shelf
def drJ (G:Gl)(k i j:Nat)(r:Nat→Nat):Nat→Nat:=if i=j∨i=k % 4∨j=k % 4 then r else joinR r (16*(k / 4)+4*i+j) (16*G.T k+4*G.P k i+G.P k j)
def drI (G:Gl)(k i:Nat)(r:Nat→Nat):Nat→Nat:=lp (drJ G k i) r 4
def drF (G:Gl)(k:Nat)(r:Nat→Nat):Nat→Nat:=if G.tet k<0 then r else lp (drI G k) r 4
theorem drF_ge {G:Gl}{k:Nat}{r:Nat→Nat}(h:¬G.tet k<0):drF G k r=lp (drI G k) r 4:=if_neg h
theorem drF_lt {G:Gl}{k:Nat}{r:Nat→Nat}(h:G.tet k<0):drF G k r=r:=if_pos h
theorem drJ_ne {G:Gl}{k i j:Nat}{r:Nat→Nat}(h1:i≠j)(h2:i≠k % 4)(h3:j≠k % 4):drJ G k i j r=joinR r (16*(k / 4)+4*i+j) (16*G.T k+4*G.P k i+G.P k j):=if_neg (by simp[h1,h2,h3])
theorem drJ_eq {G:Gl}{k i j:Nat}{r:Nat→Nat}(h:i=j∨i=k % 4∨j=k % 4):drJ G k i j r=r:=if_pos h
theorem FT.other {w W W':World}{N n D:Nat}{a:Option Addr}{cap m:Nat}{r:Nat→Nat}(h:FT w W N n a cap m r)(hg:W.grownBy W' (some D))(hD:N+1<D):FT w W' N n a cap m r:=
 ⟨hg.cell h.c0 (fun e=>by have:=Option.some.inj e;simp only at this;omega),h.ur.kept hg (fun e=>by have:=Option.some.inj e;omega),zc8 h.bel hg (by omega) (by have:=h.lt;omega)⟩
theorem directed_walk (G:Gl)(hok:za9 G=true)(w:World)(v:Value)(hv:GlAt w.heap.size w v G) :
  Calls Try.prog 94 #[.agg #[v]] w fun e w'=>∃d,e=.returned (.slice (some ⟨d,0,none⟩) (16*G.n) (16*G.n))∧w.heap.size≤d∧zb7 w' d (16*G.n) (fun i=>(lp (drF G) id (4*G.n) i:Nat))∧Below w.heap.size w w':=by
 have hn:G.n≤1000:=by simp only[za9,Bool.and_eq_true,decide_eq_true_eq] at hok;exact hok.1
 have HO:=Lib.hid hok;clear hok
 have HV:=Lib.hid hv
 obtain⟨a,b,off,cap,rfl,ha,hc⟩:=hv
 have HGC:=Hd2 ha hc;clear ha hc
 obtain⟨M,hM⟩:∃M,M=16*G.n:=⟨_,rfl⟩
 have hs:=fun W=>singles_walk M (by omega) W
 rw[show ((M:Nat):Int)=16*(G.n:Int) by omega] at hs
 have HS:=Lib.hid hs
 have hM2:M≤16000:=by omega
 rw[←hM]
 have HM:=Lib.hid hM
 have hmk:=run_make_row' (P:=Try.prog) 35 3 (.int .i64 0) 8 und35 info3 rfl .i64 .i64 M (by omega) (by omega)
 clear hs hM
 go_enter Try.func94,Try.ntmps94
 go_wp2_with fail
 refine (HS.out _).mono ?_
 rintro e w1 ⟨rfl,hu,hb⟩
 have h1:FT w w1 w.heap.size G.n a cap M id:=by
  simp only[World.size_alloc] at hu hb
  exact⟨(hb.cell (p:=⟨w.heap.size,0,none⟩) (by simp)).trans (World.cell?_alloc_at _ _ _ _ rfl),hu,((Below.refl _ w).alloc (Nat.le_refl _) _).trans (hb.mono (by omega))⟩
 simp only[World.size_alloc] at *
 have H1:=Lib.hid h1
 have c0:=h1.c0
 clear hb hu h1
 generalize hN:w.heap.size=N at *
 go_wp2
 go_loopw [20] (fun i wr=>∃t:Nat,t≤G.n∧i=.int .i64 t∧FT w wr N G.n a cap M (lp (drF G) id (4*t))) (fun i _=>G.n-(intOf i).toNat)
 case atStart=>exact⟨0,by omega,rfl,H1.out⟩
 case round=>
  clear H1 c0
  obtain⟨t,ht,rfl,hR⟩:=hrel
  have HR:=Lib.hid hR
  rcases Nat.lt_or_ge t G.n with htn | htn
  ·obtain⟨hga,hgc⟩:=HGC.out
   obtain⟨rfl,hbB⟩:=hga (by omega)
   have hrow:=ze5 (W:=wr) (b:=b) (off:=off) (fun k hk=>⟨(hR.bel.cell (p:=⟨b,_,none⟩) (by show b<N;omega)).trans (hgc k hk).1,fun i hi=>(hR.bel.cell (p:=⟨b,_,none⟩) (by show b<N;omega)).trans ((hgc k hk).2 i hi)⟩) t htn
   have hrg:=hrow.range
   have t0:0≤(t:Int):=by omega
   have tn:(t:Int)<(G.n:Int):=by omega
   clear hR hga hgc hrow hmk
   go_wp2_with (first|(refine zb8 rfl 88 (.tmp 23) rfl b (off+t*20) rfl (rowA G t) _ hrg Try.underlying88 rfl (by kernel_rfl) ?_)|(refine zc2 (w:=wr) rfl 88 (.tmp 5) (.tmp 24) rfl _ (rowA G t) rfl rfl (by kernel_rfl) rfl (zf9 G t) ?_)|(refine zf4 (w:=wr) rfl 88 (.tmp 5) rfl (rowA G t) 4 87 rfl Try.underlying88 (by kernel_rfl) ?_))
   refine zb3 fun W3 hW3=>?_
   have h3:FT w W3 N G.n (some ⟨b,off,none⟩) cap M (lp (drF G) id (4*t+0)):=by rw[hW3];exact HR.out.al _
   have H3:=Lib.hid h3
   clear h3 hW3 HR hrg
   go_loopw [26] (fun i wr=>∃f:Nat,f≤4∧i=.int .i64 f∧FT w wr N G.n (some ⟨b,off,none⟩) cap M (lp (drF G) id (4*t+f))) (fun i _=>4-(intOf i).toNat)
   case atStart=>exact⟨0,by omega,rfl,H3.out⟩
   case round=>
    clear H3
    obtain⟨f,hf,rfl,hR⟩:=hrel
    have HR:=Lib.hid hR
    clear hR
    rcases Nat.lt_or_ge f 4 with hf4 | hf4
    ·have hix:=fun w=>ze2 G t f hf4 w
     unfold faceA at hix
     have hkk:4*t+f<4*G.n:=by omega
     by_cases hneg:G.tet (4*t+f)<0
     ·have q1:decide (G.tet (4*t+f)<0)=true:=by simpa using hneg
      have HX:=Lib.hid hneg
      clear hneg
      generalize hT:G.tet (4*t+f)=T at *
      have HT:=Lib.hid hT;clear hT
      go_wp2
      go_roundw
      case rel=>exact⟨f+1,by omega,rfl,by
       have e:lp (drF G) id (4*t+(f+1))=lp (drF G) id (4*t+f):=by
        rw[←Nat.add_assoc,ze0]
        exact drF_lt (by rw[HT.out];exact HX.out)
       rw[e];exact HR.out.al _⟩
      case measure=>simp[intOf];omega
     ·obtain⟨e1,e2,e3⟩:=zc6 HO.out hkk hneg
      have q1:decide (G.tet (4*t+f)<0)=false:=by simpa using hneg
      have HX:=Hd2 hneg e3
      rw[e1] at q1 hix
      have hfe:=FE.of (q:=G.pm (4*t+f)) (T:=(G.T (4*t+f):Nat)) HR.out (fun i hi=>(e3 i hi).1)
      have HE:=Lib.hid hfe
      unfold zd3 at HE
      clear hneg hfe e1 e3
      generalize hT:G.T (4*t+f)=T at *
      have HT:=Lib.hid hT;clear hT
      go_wp2
      refine zb3 fun W4 hW=>?_
      obtain⟨E,hEE⟩:∃E,E=wr.heap.size:=⟨_,rfl⟩
      have h4:FE w W4 N G.n (some ⟨b,off,none⟩) cap M E (T:Nat) (G.P (4*t+f)) (lp (drI G (4*t+f)) (lp (drF G) id (4*t+f)) 0):=by
       rw[hW,hEE];exact HE.out
      rw[←hEE]
      have H4:=Lib.hid h4
      clear h4 hW HE HR hix hEE
      go_loopw [8] (fun i wr=>∃j:Nat,j≤4∧i=.int .i64 j∧FE w wr N G.n (some ⟨b,off,none⟩) cap M E (T:Nat) (G.P (4*t+f)) (lp (drI G (4*t+f)) (lp (drF G) id (4*t+f)) j)) (fun i _=>4-(intOf i).toNat)
      case atStart=>exact⟨0,by omega,rfl,H4.out⟩
      case round=>
       clear H4
       obtain⟨i,hi,rfl,hR⟩:=hrel
       have HR:=Lib.hid hR
       clear hR
       rcases Nat.lt_or_ge i 4 with hi4 | hi4
       ·have i0:0≤(i:Int):=by omega
        have i4:(i:Int)<4:=by omega
        go_wp2
        go_loopw [9] (fun x wr=>∃j:Nat,j≤4∧x=.int .i64 j∧FE w wr N G.n (some ⟨b,off,none⟩) cap M E (T:Nat) (G.P (4*t+f)) (lp (drJ G (4*t+f) i) (lp (drI G (4*t+f)) (lp (drF G) id (4*t+f)) i) j)) (fun x _=>4-(intOf x).toNat)
        case atStart=>exact⟨0,by omega,rfl,HR.out⟩
        case round=>
         clear HR
         obtain⟨j,hj,rfl,hR⟩:=hrel
         have c0:=hR.e0
         have HR:=Lib.hid hR
         rcases Nat.lt_or_ge j 4 with hj4 | hj4
         ·have c1:=hR.e1 i hi4
          have c2:=hR.e1 j hj4
          clear hR
          by_cases eij:i=j
          ·have b1:=zd9 eij
           have HJ:=Lib.hid eij;clear eij c0 c1 c2
           go_wp2
           go_roundw
           case rel=>exact⟨j+1,by omega,rfl,by rw[ze0,drJ_eq (.inl HJ.out)];exact HR.out⟩
           case measure=>simp[intOf];omega
          ·have b1:=ze4 eij
           by_cases eif:i=f
           ·have b2:=zd9 eif
            have HJ:=Lib.hid eif;clear eif eij c0 c1 c2
            go_wp2
            go_roundw
            case rel=>exact⟨j+1,by omega,rfl,by rw[ze0,drJ_eq (.inr (.inl (by rw[HJ.out];omega)))];exact HR.out⟩
            case measure=>simp[intOf];omega
           ·have b2:=ze4 eif
            by_cases ejf:j=f
            ·have b3:=zd9 ejf
             have HJ:=Lib.hid ejf;clear eif eij ejf c0 c1 c2
             go_wp2
             go_roundw
             case rel=>exact⟨j+1,by omega,rfl,by rw[ze0,drJ_eq (.inr (.inr (by rw[HJ.out];omega)))];exact HR.out⟩
             case measure=>simp[intOf];omega
            ·have b3:=ze4 ejf
             have d0:wr.drew.cell? ⟨E,0,none⟩=some (.int .i64 ((T:Nat):Int)):=c0
             have d1:wr.drew.cell? ⟨E,1+i,none⟩=some (.int .i64 ((G.P (4*t+f) i:Nat):Int)):=c1
             have d2:wr.drew.cell? ⟨E,1+j,none⟩=some (.int .i64 ((G.P (4*t+f) j:Nat):Int)):=c2
             have hPi:=(HX.out.2 i hi4).2
             have hPj:=(HX.out.2 j hj4).2
             obtain⟨A,hA⟩:∃A:Nat,A=16*t:=⟨_,rfl⟩
             obtain⟨B,hB⟩:∃B:Nat,B=4*i:=⟨_,rfl⟩
             obtain⟨C,hC⟩:∃C:Nat,C=A+B:=⟨_,rfl⟩
             obtain⟨I,hI⟩:∃I:Nat,I=16*t+4*i+j:=⟨_,rfl⟩
             obtain⟨A',hA'⟩:∃A:Nat,A=16*T:=⟨_,rfl⟩
             obtain⟨B',hB'⟩:∃B:Nat,B=4*G.P (4*t+f) i:=⟨_,rfl⟩
             obtain⟨C',hC'⟩:∃C:Nat,C=A'+B':=⟨_,rfl⟩
             obtain⟨J,hJ⟩:∃J:Nat,J=16*T+4*G.P (4*t+f) i+G.P (4*t+f) j:=⟨_,rfl⟩
             have HST:=Lib.hid (show lp (drJ G (4*t+f) i) (lp (drI G (4*t+f)) (lp (drF G) id (4*t+f)) i) (j+1)=joinR (lp (drJ G (4*t+f) i) (lp (drI G (4*t+f)) (lp (drF G) id (4*t+f)) i) j) I J by
              rw[ze0,drJ_ne eij (by omega) (by omega),show (4*t+f) / 4=t by omega,hI,hJ,HT.out])
             have hJn:J<M:=by have:=HM.out;omega
             have hIn:I<M:=by have:=HM.out;omega
             generalize hP:G.P (4*t+f) i=P at c1 d1 hPi hB' hJ
             generalize hQ:G.P (4*t+f) j=Q at c2 d2 hPj hJ
             have w1:IntKind.i64.wrap (16*(t:Int))=(A:Int):=by rw[IntWalk.i64_in _ (by omega)];omega
             have w2:IntKind.i64.wrap (4*(i:Int))=(B:Int):=by rw[IntWalk.i64_in _ (by omega)];omega
             have w3:IntKind.i64.wrap ((A:Int)+(B:Int))=(C:Int):=by rw[IntWalk.i64_in _ (by omega)];omega
             have w4:IntKind.i64.wrap ((C:Int)+(j:Int))=(I:Int):=by rw[IntWalk.i64_in _ (by omega)];omega
             have w5:IntKind.i64.wrap (16*(T:Int))=(A':Int):=by rw[IntWalk.i64_in _ (by omega)];omega
             have w6:IntKind.i64.wrap (4*(P:Int))=(B':Int):=by rw[IntWalk.i64_in _ (by omega)];omega
             have w7:IntKind.i64.wrap ((A':Int)+(B':Int))=(C':Int):=by rw[IntWalk.i64_in _ (by omega)];omega
             have w8:IntKind.i64.wrap ((C':Int)+(Q:Int))=(J:Int):=by rw[IntWalk.i64_in _ (by omega)];omega
             have j0:0≤(j:Int):=by omega
             have j4:(j:Int)<4:=by omega
             clear hP hQ hA hB hC hI hA' hB' hC' hJ eij eif ejf
             go_wp2
             refine zc1 22 (by kernel_rfl) (by kernel_rfl) ?_
             simp only[List.take_succ_cons,List.take_zero,List.drop_succ_cons,List.drop_zero]
             repeat (refine wpStill_step (fun K hK=>?_);go_simp;refine hK _ ?_;clear hK K)
             refine wpStill_nil ?_
             clear c0 c1 c2 d0 d1 d2
             go_wp2_with fail
             refine (ze9 _ _ _ I J hIn hJn (by omega) _ HR.out.dr.ft.ur).mono ?_
             rintro e w2 ⟨rfl,h2,g2⟩
             have H2:=Lib.hid (HR.out.dr.join h2 g2)
             clear h2 g2
             go_wp2
             go_roundw
             case rel=>exact⟨j+1,by omega,rfl,by rw[HST.out];exact H2.out⟩
             case measure=>simp[intOf];omega
         ·obtain rfl:j=4:=by omega
          clear hR
          go_wp2
          go_roundw
          case rel=>exact⟨i+1,by omega,rfl,HR.out⟩
          case measure=>simp[intOf];omega
       ·obtain rfl:i=4:=by omega
        go_wp2
        go_roundw
        case rel=>exact⟨f+1,by omega,rfl,by
         have e:lp (drF G) id (4*t+(f+1))=lp (drI G (4*t+f)) (lp (drF G) id (4*t+f)) 4:=by
          rw[←Nat.add_assoc,ze0]
          exact drF_ge (by have:=HX.out.1;omega)
         rw[e];exact HR.out.ft⟩
        case measure=>simp[intOf];omega
    ·obtain rfl:f=4:=by omega
     go_wp2
     go_roundw
     case rel=>exact⟨t+1,by omega,rfl,HR.out⟩
     case measure=>simp[intOf];omega
  ·obtain rfl:t=G.n:=by omega
   clear hR
   obtain⟨r,hr⟩:∃r,r=lp (drF G) id (4*G.n):=⟨_,rfl⟩
   rw[←hr] at HR
   have HRR:=Lib.hid hr
   clear hr
   go_wp2
   refine zb3 fun W5 hW=>?_
   obtain⟨D,hD⟩:∃D,D=wr.heap.size:=⟨_,rfl⟩
   have h5:FT w W5 N G.n a cap M r∧zb7 W5 D M (fun i=>if i<0 then ((r i:Nat):Int) else 0):=by
    rw[hW,hD];exact⟨HR.out.al _,(World.rowIs_made wr (.int .i64 0) M 3).congr (fun i _=>by simp)⟩
   rw[←hD]
   have hND:N+1<D:=by have:=HR.out.lt;omega
   have H5:=Lib.hid h5
   clear h5 hW HR hD hmk
   go_loopw [84] (fun x wr=>∃k:Nat,k≤M∧x=.int .i64 k∧FT w wr N G.n a cap M r∧zb7 wr D M (fun i=>if i<k then ((r i:Nat):Int) else 0)) (fun x _=>M-(intOf x).toNat)
   case atStart=>exact⟨0,by omega,rfl,H5.out⟩
   case round=>
    clear H5
    obtain⟨k,hk,rfl,hF,hI⟩:=hrel
    have HF:=Hd2 hF hI
    rcases Nat.lt_or_ge k M with hkn | hkn
    ·have hf:=hI.frozen k
     have hc:=hI.cell hkn
     clear hF hI
     go_wp2_with fail
     refine (rroot_walk _ _ _ k hkn (by omega) _ HF.out.1.ur).mono ?_
     rintro e w2 ⟨rfl,rfl⟩
     generalize hrk:r k=rk
     have HRK:=Lib.hid hrk;clear hrk
     have k0:0≤(k:Int):=by omega
     have kM:(k:Int)<(M:Int):=by omega
     go_wp2
     go_roundw
     case rel=>
      refine⟨k+1,by omega,rfl,HF.out.1.other (za1 _ _ _ _) hND,(HF.out.2.set k _).congr (fun i hi=>?_)⟩
      by_cases e:i=k
      ·subst e;simp[HRK.out]
      ·have:i<k+1↔i<k:=by omega
       simp[e,this]
     case measure=>simp[intOf];omega
    ·obtain rfl:k=M:=by omega
     clear hF hI
     go_wp2
     go_ret
     rw[hN]
     exact⟨_,rfl,by omega,HF.out.2.congr (fun i hi=>by simp[hi,HRR.out]),HF.out.1.bel⟩
end
section
open Go.RowKit
theorem lp_hom {α β:Type}{f:Nat→α→α}{g:Nat→β→β}(π:α→β)(h:∀i s,π (f i s)=g i (π s))(s:α):∀n,π (lp f s n)=lp g (π s) n
 | 0=>rfl
 | n+1=>by rw[ze0,ze0,h,lp_hom π h s n]
theorem lp_fix {α:Type}{f:Nat→α→α}(s:α)(h:∀i,f i s=s):∀n,lp f s n=s
 | 0=>rfl
 | n+1=>by rw[ze0,lp_fix s h n,h]
theorem cls_r1 (G:Gl):(zb5 G).r1=lp (vtF G) id (4*G.n):=by
 refine lp_hom (π:=Cls.r1) (fun k s=>?_) cls0 _
 unfold clsF vtF
 split
 ·rfl
 ·refine (lp_hom (π:=Cls.r1) (g:=vtI G k) (fun i s=>?_) _ 4)
  unfold clsI vtI
  split
  ·rfl
  ·refine (lp_hom (π:=Cls.r1) (g:=fun _ r=>r) (fun j s=>?_) _ 4).trans (lp_fix _ (fun _=>rfl) _)
   unfold clsJ
   split<;>rfl
theorem cls_r4 (G:Gl):(zb5 G).r4=lp (trF G) id (4*G.n):=by
 refine lp_hom (π:=Cls.r4) (fun k s=>?_) cls0 _
 unfold clsF trF
 split
 ·rfl
 ·refine (lp_hom (π:=Cls.r4) (g:=fun _ r=>r) (fun i s=>?_) _ 4).trans (lp_fix _ (fun _=>rfl) _)
  unfold clsI
  split
  ·rfl
  ·refine (lp_hom (π:=Cls.r4) (g:=fun _ r=>r) (fun j s=>?_) _ 4).trans (lp_fix _ (fun _=>rfl) _)
   unfold clsJ
   split<;>rfl
theorem cls_r2 (G:Gl):(zb5 G).r2=lp (drF G) id (4*G.n):=by
 refine lp_hom (π:=Cls.r2) (fun k s=>?_) cls0 _
 unfold clsF drF
 split
 ·rfl
 ·refine (lp_hom (π:=Cls.r2) (g:=drI G k) (fun i s=>?_) _ 4)
  unfold clsI drI
  by_cases hi:i=k % 4
  ·rw[if_pos hi]
   exact (lp_fix _ (fun j=>drJ_eq (.inr (.inl hi))) _).symm
  ·rw[if_neg hi]
   refine (lp_hom (π:=Cls.r2) (g:=drJ G k i) (fun j s=>?_) _ 4)
   by_cases hj:j≠k % 4∧j≠i
   ·rw[clsJ_ne hj.1 hj.2,drJ_ne (fun e=>hj.2 e.symm) hi hj.1]
   ·unfold clsJ
    rw[if_neg hj,drJ_eq]
    by_cases e:j=k % 4
    ·exact .inr (.inr e)
    ·exact .inl (by
      by_cases e2:j=i
      ·exact e2.symm
      ·exact absurd ⟨e,e2⟩ hj)
theorem join_same {r:Nat→Nat}{i j:Nat}(h:r i=r j):joinR r i j=r:=by
 funext k
 unfold joinR
 rw[h,Nat.max_self,Nat.min_self]
 split
 ·next e=>exact e.symm
 ·rfl
theorem join_meets (r:Nat→Nat)(i j:Nat):joinR r i j i=joinR r i j j:=by
 unfold joinR
 rcases Nat.lt_trichotomy (r i) (r j) with h | h | h
 ·rw[if_neg (by omega),if_pos (by omega)];omega
 ·rw[h]
 ·rw[if_pos (by omega),if_neg (by omega)];omega
theorem join_keeps {r:Nat→Nat}{i j:Nat}(h:r i=r j)(a b:Nat):joinR r a b i=joinR r a b j:=by
 unfold joinR;rw[h]
theorem join_six (r:Nat→Nat)(a b c d e f:Nat):joinR (joinR (joinR (joinR (joinR (joinR r a b) c d) a b) e f) c d) e f=joinR (joinR (joinR r a b) c d) e f:=by
 rw[join_same (r:=joinR (joinR r a b) c d) (join_keeps (join_meets r a b) c d)]
 rw[join_same (r:=joinR (joinR (joinR r a b) c d) e f) (i:=c) (j:=d) (join_keeps (join_meets _ c d) e f)]
 rw[join_same (join_meets _ e f)]
theorem edN_symm (i j:Nat):edN i j=edN j i:=by
 have hm:∀k,mE k (i:Int) (j:Int)=mE k (j:Int) (i:Int):=fun k=>by unfold mE;rw[Bool.or_comm]
 unfold edN edgeF
 simp only[hm]
theorem ed_num:edN 0 1=0∧edN 0 2=1∧edN 0 3=2∧edN 1 2=3∧edN 1 3=4∧edN 2 3=5:=by decide
def cJ (G:Gl)(k i j:Nat)(r:Nat→Nat):Nat→Nat:=if j≠k % 4∧j≠i then joinR r (6*(k / 4)+edN i j) (6*G.T k+edN (G.P k i) (G.P k j)) else r
def cI (G:Gl)(k i:Nat)(r:Nat→Nat):Nat→Nat:=if i=k % 4 then r else lp (cJ G k i) r 4
theorem lp4 {α:Type}(f:Nat→α→α)(s:α):lp f s 4=f 3 (f 2 (f 1 (f 0 s))):=rfl
theorem lp6 {α:Type}(f:Nat→α→α)(s:α):lp f s 6=f 5 (f 4 (f 3 (f 2 (f 1 (f 0 s))))):=rfl
theorem cI_er (G:Gl)(k:Nat)(r:Nat→Nat):lp (cI G k) r 4=lp (erE G k) r 6:=by
 obtain⟨n1,n2,n3,n4,n5,n6⟩:=ed_num
 have s1:edN 1 0=0:=by rw[edN_symm];exact n1
 have s2:edN 2 0=1:=by rw[edN_symm];exact n2
 have s3:edN 3 0=2:=by rw[edN_symm];exact n3
 have s4:edN 2 1=3:=by rw[edN_symm];exact n4
 have s5:edN 3 1=4:=by rw[edN_symm];exact n5
 have s6:edN 3 2=5:=by rw[edN_symm];exact n6
 have t1:=edN_symm (G.P k 1) (G.P k 0)
 have t2:=edN_symm (G.P k 2) (G.P k 0)
 have t3:=edN_symm (G.P k 3) (G.P k 0)
 have t4:=edN_symm (G.P k 2) (G.P k 1)
 have t5:=edN_symm (G.P k 3) (G.P k 1)
 have t6:=edN_symm (G.P k 3) (G.P k 2)
 have hk:k % 4=0∨k % 4=1∨k % 4=2∨k % 4=3:=by omega
 rcases hk with hk | hk | hk | hk <;>
  simp[lp4,lp6,cI,cJ,erE,hk,pA,pB,n1,n2,n3,n4,n5,n6,s1,s2,s3,s4,s5,s6,t1,t2,t3,t4,t5,t6,join_six]
theorem cls_r3 (G:Gl):(zb5 G).r3=lp (erF G) id (4*G.n):=by
 refine lp_hom (π:=Cls.r3) (fun k s=>?_) cls0 _
 unfold clsF erF
 split
 ·rfl
 ·refine (lp_hom (π:=Cls.r3) (g:=cI G k) (fun i s=>?_) _ 4).trans (cI_er G k _)
  unfold clsI cI
  by_cases hi:i=k % 4
  ·rw[if_pos hi,if_pos hi]
  ·rw[if_neg hi,if_neg hi]
   refine (lp_hom (π:=Cls.r3) (g:=cJ G k i) (fun j s=>?_) _ 4)
   unfold clsJ cJ
   split<;>rfl
theorem cnt_inj {r:Nat→Nat}{x y:Nat}(hx:r x=x)(hy:r y=y)(h:cnt r x=cnt r y):x=y:=by
 rcases Nat.lt_trichotomy x y with e | e | e
 ·have:=cnt_mono r (show x+1≤y by omega)
  simp only[cnt,hx,if_pos] at this;omega
 ·exact e
 ·have:=cnt_mono r (show y+1≤x by omega)
  simp only[cnt,hy,if_pos] at this;omega
end
section
section
variable {G:Gl}{f g:Nat→Nat→Int}{sh:Nat}
end
end
section
def ptF (G:Gl)(k:Nat)(r:Nat→Nat):Nat→Nat:=if G.tet k<0 then r else joinR r (k / 4) (G.T k)
def ptR (G:Gl):Nat→Nat:=lp (ptF G) id (4*G.n)
theorem ptF_ge {G:Gl}{k:Nat}{r:Nat→Nat}(h:¬G.tet k<0):ptF G k r=joinR r (k / 4) (G.T k):=if_neg h
theorem ptF_lt {G:Gl}{k:Nat}{r:Nat→Nat}(h:G.tet k<0):ptF G k r=r:=if_pos h
theorem joinR_same {r:Nat→Nat}{i j x y:Nat}(h:r x=r y):joinR r i j x=joinR r i j y:=by
 unfold joinR;rw[h]
theorem joinR_ij {r:Nat→Nat}{i j:Nat}:joinR r i j i=joinR r i j j:=by
 unfold joinR;split<;>split<;>omega
theorem pt_reps {G:Gl}(hok:za9 G=true):∀m,m≤4*G.n→PR G.n (lp (ptF G) id m)
 | 0,_=>⟨id,fun _ _=>Nat.le_refl _,fun _ _=>rfl,fun _ _ _=>rfl⟩
 | m+1,hm=>by
  have ih:=pt_reps hok m (by omega)
  rw[ze0]
  by_cases ht:G.tet m<0
  ·rw[ptF_lt ht];exact ih
  ·rw[ptF_ge ht]
   have:=(zc6 hok (show m<4*G.n by omega) ht).2.1
   exact ih.join (by omega) this
theorem pt_face {G:Gl}:∀m k,k<m→¬G.tet k<0→lp (ptF G) id m (k / 4)=lp (ptF G) id m (G.T k)
 | 0,k,h,_=>by omega
 | m+1,k,h,ht=>by
  rw[ze0]
  by_cases e:k=m
  ·subst e
   rw[ptF_ge ht];exact joinR_ij
  ·have ih:=pt_face (G:=G) m k (by omega) ht
   by_cases hm:G.tet m<0
   ·rw[ptF_lt hm];exact ih
   ·rw[ptF_ge hm];exact joinR_same ih
theorem pt_closed {G:Gl}(hok:za9 G=true){p:Nat→Prop}(hp:∀k,k<4*G.n→¬G.tet k<0→(p (k / 4)↔p (G.T k))):∀m,m≤4*G.n→∀x,x<G.n→(p x↔p (lp (ptF G) id m x))
 | 0,_,_,_=>Iff.rfl
 | m+1,hm,x,hx=>by
  have ih:=pt_closed hok hp m (by omega)
  rw[ze0]
  by_cases ht:G.tet m<0
  ·rw[ptF_lt ht];exact ih x hx
  ·rw[ptF_ge ht]
   have hT:=(zc6 hok (show m<4*G.n by omega) ht).2.1
   have h1:=hp m (by omega) ht
   have h2:=ih (m / 4) (by omega)
   have h3:=ih (G.T m) hT
   have h4:=ih x hx
   unfold joinR
   split
   ·rename_i e
    rw[h4,e]
    rcases Nat.le_total (lp (ptF G) id m (m / 4)) (lp (ptF G) id m (G.T m)) with q | q
    ·rw[Nat.max_eq_right q,Nat.min_eq_left q,←h2,←h3,h1]
    ·rw[Nat.max_eq_left q,Nat.min_eq_right q,←h2,←h3,h1]
   ·exact h4
end
section
open Go.RowKit Go.Shelf
def SignR (p:Nat→Int):Int:=if validR p then signF p else 0
theorem rsign_walk (p:Nat→Int)(w:World):Calls Try.prog 47 #[.agg (P4 p)] w fun e w'=>e=.returned (.int .i64 (SignR p))∧Below w.heap.size w w':=by
 have hvl:=fun W=>zf0 p W
 have HVL:=Lib.hid hvl;clear hvl
 unfold P4 at *
 have hc0:∀W:World,(∀i,i<4→(W.alloc (.cells #[.int .i64 (p 0),.int .i64 (p 1),.int .i64 (p 2),.int .i64 (p 3)] 85)).cell? ⟨W.heap.size,i,none⟩=some (.int .i64 (p i))):=fun W i hi=>by
  match i,hi with
  | 0,_=>simp[go_sem]
  | 1,_=>simp[go_sem]
  | 2,_=>simp[go_sem]
  | 3,_=>simp[go_sem]
 have HC0:=Lib.hid hc0;clear hc0
 obtain⟨N,hN⟩:∃N,N=w.heap.size:=⟨_,rfl⟩
 go_enter Try.func47,Try.ntmps47
 go_wp2_with fail
 refine (HVL.out _).mono ?_
 rintro e w1 ⟨rfl,hb⟩
 have h1:(∀i,i<4→w1.cell? ⟨N,i,none⟩=some (.int .i64 (p i)))∧Below N w w1∧N<w1.heap.size:=by
  have hs:=hb.size
  simp only[World.size_alloc] at hs
  rw[hN]
  exact⟨fun i hi=>(hb.cell (p:=⟨w.heap.size,i,none⟩) (by simp)).trans (HC0.out w i hi),((Below.refl _ w).alloc (Nat.le_refl _) _).trans (hb.mono (by simp)),by omega⟩
 rw[←hN]
 have H1:=Lib.hid h1
 have HN:=Lib.hid hN
 clear h1 hb hN
 by_cases hv:validR p=true
 ·have HX:=Lib.hid (show SignR p=signF p from if_pos hv)
  go_wp2
  go_loopw [4,3] (fun i s wr=>∃k:Nat,k≤4∧i=.int .i64 k∧s=.int .i64 (lp (sgI p) 1 k)∧Below w1.heap.size w1 wr) (fun i _ _=>4-(intOf i).toNat)
  case atStart=>exact⟨0,by omega,rfl,rfl,Below.refl _ _⟩
  case round=>
   obtain⟨k,hk,rfl,rfl,hb⟩:=hrel
   have HK:=Lib.hid hb;clear hb
   rcases Nat.lt_or_ge k 4 with hlk | hge
   ·have hpm:=sg_pm (p:=p) (m:=k)
    have k4:(k:Int)<4:=by omega
    have HE:=Lib.hid (show lp (sgI p) 1 (k+1)=lp (sgJ p k) (lp (sgI p) 1 k) k from rfl)
    generalize lp (sgI p) 1 k=s0 at *
    go_wp2
    go_loopw [5,3] (fun i s wr=>∃j:Nat,j≤k∧i=.int .i64 j∧s=.int .i64 (lp (sgJ p k) s0 j)∧Below w1.heap.size w1 wr) (fun i _ _=>4-(intOf i).toNat)
    case atStart=>exact⟨0,by omega,rfl,rfl,HK.out⟩
    case round=>
     obtain⟨j,hj,rfl,rfl,hb⟩:=hrel
     have hcj:=(hb.cell (p:=⟨N,j,none⟩) H1.out.2.2).trans (H1.out.1 j (by omega))
     have hck:=(hb.cell (p:=⟨N,k,none⟩) H1.out.2.2).trans (H1.out.1 k (by omega))
     have HK2:=Lib.hid hb;clear hb
     have hq:=sgI_pm (p:=p) (i:=k) (m:=j) hpm
     have HS:=Lib.hid (show lp (sgJ p k) s0 (j+1)=sgJ p k j (lp (sgJ p k) s0 j) from rfl)
     generalize hs1:lp (sgJ p k) s0 j=s1 at *
     have HS1:=Lib.hid hs1;clear hs1
     rcases Nat.lt_or_ge j k with hlj | hgj
     ·have j4:(j:Int)<4:=by omega
      have j0:0≤(j:Int):=by omega
      have k0:0≤(k:Int):=by omega
      rcases Int.lt_or_le (p k) (p j) with hlt | hle
      ·have HX:=Lib.hid (show sgJ p k j s1=-s1 by simp[sgJ,hlt])
       generalize p j=pj at *
       generalize p k=pk at *
       rcases hq with rfl | rfl
       ·go_wp2
        go_still (by kernel_rfl)
        go_wp2
        go_roundw
        case rel=>exact⟨j+1,by omega,rfl,by rw[HS.out,HX.out],za5 HK2.out⟩
        case measure=>simp[intOf];omega
       ·go_wp2
        go_still (by kernel_rfl)
        go_wp2
        go_roundw
        case rel=>exact⟨j+1,by omega,rfl,by rw[HS.out,HX.out];rfl,za5 HK2.out⟩
        case measure=>simp[intOf];omega
      ·have HX:=Lib.hid (show sgJ p k j s1=s1 by simp[sgJ];omega)
       generalize p j=pj at *
       generalize p k=pk at *
       go_wp2
       go_still (by kernel_rfl)
       go_wp2
       go_roundw
       case rel=>exact⟨j+1,by omega,rfl,by rw[HS.out,HX.out],za5 HK2.out⟩
       case measure=>simp[intOf];omega
     ·obtain rfl:j=k:=by omega
      go_wp2
      go_roundw
      case rel=>exact⟨j+1,by omega,rfl,by rw[HE.out,HS1.out],HK2.out⟩
      case measure=>simp[intOf];omega
   ·obtain rfl:k=4:=by omega
    go_wp2
    go_ret
    rw[←HN.out]
    exact⟨by rw[HX.out];rfl,by have:=H1.out;have hb:=HK.out;exact this.2.1.trans (hb.mono (by omega))⟩
 ·have hv:validR p=false:=by simpa using hv
  have HX:=Lib.hid (show SignR p=0 by simp[SignR,hv])
  go_wp2
  go_ret
  rw[←HN.out]
  exact⟨by rw[HX.out];rfl,H1.out.2.1⟩
end
section
open Go.RowKit Go.Shelf
structure OT (w W:World)(N n:Nat)(a:Option Addr)(cap m D:Nat)(G:Gl)(t:Nat):Prop where
 ft:∃r,FT w W N n a cap m r
 row:zb9 W D 0 G t
 lt:N+1<D
section
variable {w W W':World}{N n:Nat}{a:Option Addr}{cap m D t:Nat}{G:Gl}
theorem OT.al (h:OT w W N n a cap m D G t)(o:Obj):OT w (W.alloc o) N n a cap m D G t:=by
 obtain⟨r,hr⟩:=h.ft
 exact⟨⟨r,hr.al o⟩,h.row.alloc o,h.lt⟩
theorem OT.below (h:OT w W N n a cap m D G t)(hb:Below W.heap.size W W'):OT w W' N n a cap m D G t:=by
 obtain⟨r,hr⟩:=h.ft
 have hl:=hr.lt
 exact⟨⟨r,hr.below hb (by omega)⟩,h.row.kept (row:=none) ⟨hb.os,hb.tape,hb.output,hb.size,fun k hk _=>hb.block k hk⟩ (by simp),h.lt⟩
theorem OT.join (h:OT w W N n a cap m D G t){r':Nat→Nat}(hu:UR W' (N+1) m r')(hg:W.grownBy W' (some (N+1))):OT w W' N n a cap m D G t:=by
 obtain⟨r,hr⟩:=h.ft
 exact⟨⟨r',hr.join hu hg⟩,h.row.kept hg (fun e=>by have:=h.lt;have:=Option.some.inj e;omega),h.lt⟩
end
structure OE (w W:World)(N n:Nat)(a:Option Addr)(cap m D:Nat)(G:Gl)(t E:Nat)(T:Int)(q:Nat→Int):Prop where
 ot:OT w W N n a cap m D G t
 e0:W.cell? ⟨E,0,none⟩=some (.int .i64 T)
 e1:∀i,i<4→W.cell? ⟨E,1+i,none⟩=some (.int .i64 (q i))
 lt:N+1<E
section
variable {w W W':World}{N n:Nat}{a:Option Addr}{cap m D t E:Nat}{T:Int}{q:Nat→Int}{G:Gl}
theorem OE.join (h:OE w W N n a cap m D G t E T q){r':Nat→Nat}(hu:UR W' (N+1) m r')(hg:W.grownBy W' (some (N+1))):OE w W' N n a cap m D G t E T q:=
 ⟨h.ot.join hu hg,hg.cell h.e0 (fun e=>by have:=h.lt;have:=Option.some.inj e;simp only at this;omega),fun i hi=>hg.cell (h.e1 i hi) (fun e=>by have:=h.lt;have:=Option.some.inj e;simp only at this;omega),h.lt⟩
theorem OE.below (h:OE w W N n a cap m D G t E T q)(hb:Below W.heap.size W W'):OE w W' N n a cap m D G t E T q:=
 ⟨h.ot.below hb,(hb.cell (za0 h.e0)).trans h.e0,fun i hi=>(hb.cell (za0 (h.e1 i hi))).trans (h.e1 i hi),h.lt⟩
theorem OE.dr (h:OE w W N n a cap m D G t E T q):OE w W.drew N n a cap m D G t E T q:=h.below (za5 (Below.refl _ _))
theorem OE.of (h:OT w W N n a cap m D G t):OE w (W.alloc (.cells (zd3 T q) 87)) N n a cap m D G t W.heap.size T q:=by
 have hE:∀j v,(zd3 T q)[j]?=some v→(W.alloc (.cells (zd3 T q) 87)).cell? ⟨W.heap.size,j,none⟩=some v:=fun j v hv=>(World.cell?_alloc_at _ _ _ _ rfl).trans hv
 obtain⟨r,hr⟩:=h.ft
 exact⟨h.al _,hE 0 _ rfl,fun i hi=>hE _ _ (zf8 T q i hi),hr.lt⟩
end
def RetBool (w:World)(e:Ending)(w':World):Prop:=(∃b,e=.returned (.bool b))∧Below w.heap.size w w'
theorem eight_n (n:Nat):((8*n:Nat):Int)=8*(n:Int):=by omega
theorem rorientable_walk (G:Gl)(hok:za9 G=true)(w:World)(v:Value)(hv:GlAt w.heap.size w v G)(d:Nat)(vf:Nat→Int)(hd:zb7 w d (4*G.n) vf)(x:Int) :
  Calls Try.prog 123 #[.agg #[v],.slice (some ⟨d,0,none⟩) (4*G.n) (4*G.n),.int .i64 x] w (RetBool w):=by
 have hn:G.n≤1000:=by simp only[za9,Bool.and_eq_true,decide_eq_true_eq] at hok;exact hok.1
 have HO:=Hd2 hok hd
 have hdl:=hd.lt
 clear hok hd
 obtain⟨a,b,off,cap,rfl,ha,hc⟩:=hv
 have HGC:=Hd2 ha hc;clear ha hc
 have hs:=fun W=>singles_walk (8*G.n) (by omega) W
 rw[eight_n] at hs
 have HS:=Lib.hid hs;clear hs
 go_enter Try.func123,Try.ntmps123
 go_wp2_with fail
 refine (HS.out _).mono ?_
 rintro e w1 ⟨rfl,hu,hb⟩
 have h1:∃r,FT w w1 w.heap.size G.n a cap (8*G.n) r:=by
  simp only[World.size_alloc] at hu hb
  exact⟨id,(hb.cell (p:=⟨w.heap.size,0,none⟩) (by simp)).trans (World.cell?_alloc_at _ _ _ _ rfl),hu,((Below.refl _ w).alloc (Nat.le_refl _) _).trans (hb.mono (by omega))⟩
 simp only[World.size_alloc] at *
 have H1:=Lib.hid h1
 obtain⟨_,hr1⟩:=h1
 have c0:=hr1.c0
 clear hb hu hr1
 generalize hN:w.heap.size=N at *
 go_wp2
 go_loopw [25] (fun i wr=>∃t:Nat,t≤G.n∧i=.int .i64 t∧∃r,FT w wr N G.n a cap (8*G.n) r) (fun i _=>G.n-(intOf i).toNat)
 case atStart=>exact⟨0,by omega,rfl,H1.out⟩
 case round=>
  clear H1 c0
  obtain⟨t,ht,rfl,hR⟩:=hrel
  have HR:=Lib.hid hR
  obtain⟨r0,hR⟩:=hR
  rcases Nat.lt_or_ge t G.n with htn | htn
  ·obtain⟨hga,hgc⟩:=HGC.out
   obtain⟨rfl,hbB⟩:=hga (by omega)
   have hrow:=ze5 (W:=wr) (b:=b) (off:=off) (fun k hk=>⟨(hR.bel.cell (p:=⟨b,_,none⟩) (by show b<N;omega)).trans (hgc k hk).1,fun i hi=>(hR.bel.cell (p:=⟨b,_,none⟩) (by show b<N;omega)).trans ((hgc k hk).2 i hi)⟩) t htn
   have hrg:=hrow.range
   have t0:0≤(t:Int):=by omega
   have tn:(t:Int)<(G.n:Int):=by omega
   have hNl:=hR.lt
   clear hR hga hgc hrow
   go_wp2_with (first|(refine zb8 rfl 88 (.tmp 28) rfl b (off+t*20) rfl (rowA G t) _ hrg Try.underlying88 rfl (by kernel_rfl) ?_)|(refine zc2 (w:=wr) rfl 88 (.tmp 9) (.tmp 29) rfl _ (rowA G t) rfl rfl (by kernel_rfl) rfl (zf9 G t) ?_))
   refine zb3 fun W3 hW3=>?_
   obtain⟨D,hD⟩:∃D,D=wr.heap.size:=⟨_,rfl⟩
   have h3:OT w W3 N G.n (some ⟨b,off,none⟩) cap (8*G.n) D G t:=by
    rw[hW3,hD]
    obtain⟨r,hr⟩:=HR.out
    exact⟨⟨r,hr.al _⟩,fun j hj=>by rw[Nat.zero_add];exact World.cell?_alloc_at _ _ _ _ rfl,hNl⟩
   rw[←hD]
   have H3:=Lib.hid h3
   clear h3 hW3 HR hrg hD hNl
   go_loopw [10] (fun i wr=>∃j:Nat,j≤4∧i=.int .i64 j∧OT w wr N G.n (some ⟨b,off,none⟩) cap (8*G.n) D G t) (fun i _=>4-(intOf i).toNat)
   case atStart=>exact⟨0,by omega,rfl,H3.out⟩
   case round=>
    clear H3
    obtain⟨i,hi,rfl,hR⟩:=hrel
    have HR:=Lib.hid hR
    rcases Nat.lt_or_ge i 4 with hi4 | hi4
    ·have hrg:=hR.row.range
     have i0:0≤(i:Int):=by omega
     have i4:(i:Int)<4:=by omega
     clear hR
     go_wp2_with (first|(refine zb8 rfl 88 (.tmp 9) rfl D 0 rfl (rowA G t) _ hrg Try.underlying88 rfl (by kernel_rfl) ?_))
     clear hrg
     go_loopw [35] (fun x wr=>∃f:Nat,f≤4∧x=.int .i64 f∧OT w wr N G.n (some ⟨b,off,none⟩) cap (8*G.n) D G t) (fun x _=>4-(intOf x).toNat)
     case atStart=>exact⟨0,by omega,rfl,HR.out⟩
     case round=>
      clear HR
      obtain⟨f,hf,rfl,hR⟩:=hrel
      have HR:=Lib.hid hR
      clear hR
      rcases Nat.lt_or_ge f 4 with hf4 | hf4
      ·have hix:=fun w=>ze2 G t f hf4 w
       unfold faceA at hix
       have hkk:4*t+f<4*G.n:=by omega
       by_cases efi:f=i
       ·have b1:=zd0 efi
        clear efi
        go_wp2
        go_roundw
        case rel=>exact⟨f+1,by omega,rfl,HR.out.al _⟩
        case measure=>simp[intOf];omega
       ·have b1:=zc4 efi
        by_cases hneg:G.tet (4*t+f)<0
        ·have q1:decide (G.tet (4*t+f)<0)=true:=by simpa using hneg
         clear hneg efi
         generalize hT:G.tet (4*t+f)=T at *
         clear hT
         go_wp2
         go_roundw
         case rel=>exact⟨f+1,by omega,rfl,HR.out.al _⟩
         case measure=>simp[intOf];omega
        ·obtain⟨e1,e2,e3⟩:=zc6 HO.out.1 hkk hneg
         have q1:decide (G.tet (4*t+f)<0)=false:=by simpa using hneg
         have HX:=Hd2 hneg e3
         have hPi:=(e3 i hi4).2
         have hPe:=(e3 i hi4).1
         rw[e1] at q1 hix
         have hoe:=OE.of (T:=((G.T (4*t+f):Nat):Int)) (q:=G.pm (4*t+f)) HR.out
         have hob:=(HR.out.al (.cells (zd3 ((G.T (4*t+f):Nat):Int) (G.pm (4*t+f))) 87)).ft
         obtain⟨_,hob⟩:=hob
         have cv:=(hob.bel.cell (p:=⟨d,4*t+i,none⟩) (by show d<N;omega)).trans (HO.out.2.cell (i:=4*t+i) (by omega))
         have HE:=Lib.hid hoe
         unfold zd3 at HE cv
         clear hneg hoe e1 e3 hob efi
         generalize hT:G.T (4*t+f)=T at *
         generalize hpm:G.pm (4*t+f)=q at *
         generalize hP:G.P (4*t+f) i=P at *
         clear hT hpm hP HR
         obtain⟨E,hEE⟩:∃E,E=wr.heap.size:=⟨_,rfl⟩
         rw[←hEE] at HE
         obtain⟨I,hI⟩:∃I:Nat,I=4*t+i:=⟨_,rfl⟩
         rw[←hI] at cv
         have hIn:I<4*G.n:=by omega
         have hIe:4*(t:Int)+(i:Int)=(I:Int):=by omega
         clear hI
         generalize hvf:vf I=y at *
         clear hvf
         by_cases eyx:y=x
         ·have b2:(y !=x)=false:=by simp[bne,eyx]
          have hrs:=fun W=>rsign_walk q W
          obtain⟨sg,hsg⟩:∃sg,sg=SignR q:=⟨_,rfl⟩
          unfold P4 at hrs
          rw[←hsg] at hrs
          have HRS:=Lib.hid hrs
          clear eyx hrs hsg
          go_wp2_with fail
          refine (HRS.out _).mono ?_
          rintro e w5 ⟨rfl,hb5⟩
          have HE5:=Lib.hid (HE.out.below hb5)
          clear hb5 HE cv
          rw[←hEE]
          clear hEE
          obtain⟨A,hA⟩:∃A:Nat,A=8*t:=⟨_,rfl⟩
          obtain⟨B,hB⟩:∃B:Nat,B=2*i:=⟨_,rfl⟩
          obtain⟨C,hC⟩:∃C:Nat,C=A+B:=⟨_,rfl⟩
          obtain⟨C1,hC1⟩:∃C1:Nat,C1=C+1:=⟨_,rfl⟩
          obtain⟨A',hA'⟩:∃A:Nat,A=8*T:=⟨_,rfl⟩
          obtain⟨B',hB'⟩:∃B:Nat,B=2*P:=⟨_,rfl⟩
          obtain⟨F,hF⟩:∃C:Nat,C=A'+B':=⟨_,rfl⟩
          obtain⟨F1,hF1⟩:∃C1:Nat,C1=F+1:=⟨_,rfl⟩
          have hC1n:C1<8*G.n:=by omega
          have hF1n:F1<8*G.n:=by omega
          have hCn:C<C1:=by omega
          have hFn:F<F1:=by omega
          have v1:IntKind.i64.wrap (8*(t:Int))=(A:Int):=by rw[IntWalk.i64_in _ (by omega)];omega
          have v2:IntKind.i64.wrap (2*(i:Int))=(B:Int):=by rw[IntWalk.i64_in _ (by omega)];omega
          have v3:IntKind.i64.wrap ((A:Int)+(B:Int))=(C:Int):=by rw[IntWalk.i64_in _ (by omega)];omega
          have v4:IntKind.i64.wrap ((C:Int)+1)=(C1:Int):=by rw[IntWalk.i64_in _ (by omega)];omega
          have v5:IntKind.i64.wrap (8*(T:Int))=(A':Int):=by rw[IntWalk.i64_in _ (by omega)];omega
          have v6:IntKind.i64.wrap (2*(P:Int))=(B':Int):=by rw[IntWalk.i64_in _ (by omega)];omega
          have v7:IntKind.i64.wrap ((A':Int)+(B':Int))=(F:Int):=by rw[IntWalk.i64_in _ (by omega)];omega
          have v8:IntKind.i64.wrap ((F:Int)+1)=(F1:Int):=by rw[IntWalk.i64_in _ (by omega)];omega
          have v9:IntKind.i64.wrap (C:Int)=(C:Int):=by rw[IntWalk.i64_in _ (by omega)]
          have v10:IntKind.i64.wrap (F:Int)=(F:Int):=by rw[IntWalk.i64_in _ (by omega)]
          have z0:IntKind.i64.wrap 0=0:=by decide
          have z1:IntKind.i64.wrap 1=1:=by decide
          have z2:IntKind.i64.wrap 2=2:=by decide
          have hP4:(P:Int)<4:=by omega
          clear hA hB hC hC1 hA' hB' hF hF1
          by_cases hsg:sg=1
          ·have b3:(sg==1)=true:=by simpa using hsg
           clear hsg
           go_wp2
           refine zb3 fun W6 hW6=>?_
           have h6:OE w W6 N G.n (some ⟨b,off,none⟩) cap (8*G.n) D G t E (T:Nat) q:=by rw[hW6];exact HE5.out
           have H6:=Lib.hid h6
           clear h6 hW6 HE5
           go_loopw [14] (fun x wr=>∃s:Nat,s≤2∧x=.int .i64 s∧OE w wr N G.n (some ⟨b,off,none⟩) cap (8*G.n) D G t E (T:Nat) q) (fun x _=>2-(intOf x).toNat)
           case atStart=>exact⟨0,by omega,rfl,H6.out⟩
           case round=>
            clear H6
            obtain⟨s,hs,rfl,hR⟩:=hrel
            have HR:=Lib.hid hR
            have d0:wr.drew.cell? ⟨E,0,none⟩=some (.int .i64 ((T:Nat):Int)):=hR.e0
            have d1:wr.drew.cell? ⟨E,1+i,none⟩=some (.int .i64 ((P:Nat):Int)):=by rw[←hPe];exact hR.e1 i hi4
            clear hR
            rcases (show s=0∨s=1∨s=2 by omega) with rfl | rfl | rfl
            ·go_wp2
             refine zc1 22 (by kernel_rfl) (by kernel_rfl) ?_
             simp only[List.take_succ_cons,List.take_zero,List.drop_succ_cons,List.drop_zero]
             repeat (refine wpStill_step (fun K hK=>?_);go_simp;refine hK _ ?_;clear hK K)
             refine wpStill_nil ?_
             clear d0 d1
             go_wp2_with fail
             obtain⟨r6,h6⟩:=HR.out.dr.ot.ft
             refine (ze9 _ _ _ C F1 (by omega) (by omega) (by omega) _ h6.ur).mono ?_
             rintro e w7 ⟨rfl,h7,g7⟩
             have H7:=Lib.hid (HR.out.dr.join h7 g7)
             clear h7 g7 h6
             go_wp2
             go_roundw
             case rel=>exact⟨1,by omega,rfl,H7.out⟩
             case measure=>simp[intOf]
            ·go_wp2
             refine zc1 22 (by kernel_rfl) (by kernel_rfl) ?_
             simp only[List.take_succ_cons,List.take_zero,List.drop_succ_cons,List.drop_zero]
             repeat (refine wpStill_step (fun K hK=>?_);go_simp;refine hK _ ?_;clear hK K)
             refine wpStill_nil ?_
             clear d0 d1
             go_wp2_with fail
             obtain⟨r6,h6⟩:=HR.out.dr.ot.ft
             refine (ze9 _ _ _ C1 F (by omega) (by omega) (by omega) _ h6.ur).mono ?_
             rintro e w7 ⟨rfl,h7,g7⟩
             have H7:=Lib.hid (HR.out.dr.join h7 g7)
             clear h7 g7 h6
             go_wp2
             go_roundw
             case rel=>exact⟨2,by omega,rfl,H7.out⟩
             case measure=>simp[intOf]
            ·clear d0 d1
             go_wp2
             go_roundw
             case rel=>exact⟨f+1,by omega,rfl,HR.out.ot⟩
             case measure=>simp[intOf];omega
          ·have b3:(sg==1)=false:=by simpa using hsg
           clear hsg
           go_wp2
           refine zb3 fun W6 hW6=>?_
           have h6:OE w W6 N G.n (some ⟨b,off,none⟩) cap (8*G.n) D G t E (T:Nat) q:=by rw[hW6];exact HE5.out
           have H6:=Lib.hid h6
           clear h6 hW6 HE5
           go_loopw [14] (fun x wr=>∃s:Nat,s≤2∧x=.int .i64 s∧OE w wr N G.n (some ⟨b,off,none⟩) cap (8*G.n) D G t E (T:Nat) q) (fun x _=>2-(intOf x).toNat)
           case atStart=>exact⟨0,by omega,rfl,H6.out⟩
           case round=>
            clear H6
            obtain⟨s,hs,rfl,hR⟩:=hrel
            have HR:=Lib.hid hR
            have d0:wr.drew.cell? ⟨E,0,none⟩=some (.int .i64 ((T:Nat):Int)):=hR.e0
            have d1:wr.drew.cell? ⟨E,1+i,none⟩=some (.int .i64 ((P:Nat):Int)):=by rw[←hPe];exact hR.e1 i hi4
            clear hR
            rcases (show s=0∨s=1∨s=2 by omega) with rfl | rfl | rfl
            ·go_wp2
             refine zc1 22 (by kernel_rfl) (by kernel_rfl) ?_
             simp only[List.take_succ_cons,List.take_zero,List.drop_succ_cons,List.drop_zero]
             repeat (refine wpStill_step (fun K hK=>?_);go_simp;refine hK _ ?_;clear hK K)
             refine wpStill_nil ?_
             clear d0 d1
             go_wp2_with fail
             obtain⟨r6,h6⟩:=HR.out.dr.ot.ft
             refine (ze9 _ _ _ C F (by omega) (by omega) (by omega) _ h6.ur).mono ?_
             rintro e w7 ⟨rfl,h7,g7⟩
             have H7:=Lib.hid (HR.out.dr.join h7 g7)
             clear h7 g7 h6
             go_wp2
             go_roundw
             case rel=>exact⟨1,by omega,rfl,H7.out⟩
             case measure=>simp[intOf]
            ·go_wp2
             refine zc1 22 (by kernel_rfl) (by kernel_rfl) ?_
             simp only[List.take_succ_cons,List.take_zero,List.drop_succ_cons,List.drop_zero]
             repeat (refine wpStill_step (fun K hK=>?_);go_simp;refine hK _ ?_;clear hK K)
             refine wpStill_nil ?_
             clear d0 d1
             go_wp2_with fail
             obtain⟨r6,h6⟩:=HR.out.dr.ot.ft
             refine (ze9 _ _ _ C1 F1 (by omega) (by omega) (by omega) _ h6.ur).mono ?_
             rintro e w7 ⟨rfl,h7,g7⟩
             have H7:=Lib.hid (HR.out.dr.join h7 g7)
             clear h7 g7 h6
             go_wp2
             go_roundw
             case rel=>exact⟨2,by omega,rfl,H7.out⟩
             case measure=>simp[intOf]
            ·clear d0 d1
             go_wp2
             go_roundw
             case rel=>exact⟨f+1,by omega,rfl,HR.out.ot⟩
             case measure=>simp[intOf];omega
         ·have b2:(y !=x)=true:=by simpa [bne] using eyx
          clear eyx hEE
          have HE2:=Lib.hid HE.out.ot
          clear HE
          go_wp2
          go_roundw
          case rel=>exact⟨f+1,by omega,rfl,HE2.out⟩
          case measure=>simp[intOf];omega
      ·obtain rfl:f=4:=by omega
       go_wp2
       go_roundw
       case rel=>exact⟨i+1,by omega,rfl,HR.out⟩
       case measure=>simp[intOf];omega
    ·obtain rfl:i=4:=by omega
     clear hR
     go_wp2
     go_roundw
     case rel=>exact⟨t+1,by omega,rfl,HR.out.ft⟩
     case measure=>simp[intOf];omega
  ·obtain rfl:t=G.n:=by omega
   clear hR
   obtain⟨r,hr⟩:=HR.out
   have c0:=hr.c0
   have HR:=Lib.hid hr
   clear hr
   go_wp2
   go_loop [94] (fun x=>∃t:Nat,t≤G.n∧x=.int .i64 t) (fun x=>G.n-(intOf x).toNat)
   case atStart=>exact⟨0,by omega,rfl⟩
   case round=>
    clear c0
    obtain⟨t,ht,rfl⟩:=hrel
    rcases Nat.lt_or_ge t G.n with htn | htn
    ·have t0:0≤(t:Int):=by omega
     have tn:(t:Int)<(G.n:Int):=by omega
     go_wp2
     go_loop [16] (fun x=>∃i:Nat,i≤4∧x=.int .i64 i) (fun x=>4-(intOf x).toNat)
     case atStart=>exact⟨0,by omega,rfl⟩
     case round=>
      obtain⟨i,hi,rfl⟩:=hrel
      rcases Nat.lt_or_ge i 4 with hi4 | hi4
      ·have i4:(i:Int)<4:=by omega
       have hr1:=rroot_walk (N+1) (8*G.n) r (8*t+2*i) (by omega) (by omega) wr HR.out.ur
       have hr2:=rroot_walk (N+1) (8*G.n) r (8*t+2*i+1) (by omega) (by omega) wr HR.out.ur
       rw[show ((8*t+2*i+1:Nat):Int)=8*(t:Int)+2*(i:Int)+1 by omega] at hr2
       rw[show ((8*t+2*i:Nat):Int)=8*(t:Int)+2*(i:Int) by omega] at hr1
       generalize r (8*t+2*i+1)=y at *
       generalize r (8*t+2*i)=z at *
       have HR1:=Lib.hid hr1
       have HR2:=Lib.hid hr2
       clear hr1 hr2
       go_wp2_with fail
       refine HR1.out.mono ?_
       rintro e w8 ⟨rfl,rfl⟩
       go_wp2_with fail
       refine HR2.out.mono ?_
       rintro e w9 ⟨rfl,rfl⟩
       by_cases e:z=y
       ·have b1:=zd0 e
        clear e
        go_wp2
        go_ret
        exact⟨⟨_,rfl⟩,hN▸HR.out.bel⟩
       ·have b1:=zc4 e
        clear e
        go_wp2
        go_round
        case rel=>exact⟨i+1,by omega,rfl⟩
        case measure=>simp[intOf];omega
      ·obtain rfl:i=4:=by omega
       go_wp2
       go_round
       case rel=>exact⟨t+1,by omega,rfl⟩
       case measure=>simp[intOf];omega
    ·obtain rfl:t=G.n:=by omega
     go_wp2
     go_ret
     exact⟨⟨_,rfl⟩,hN▸HR.out.bel⟩
end
end Go.Proofs.Ytlckpgahijlmoaa
