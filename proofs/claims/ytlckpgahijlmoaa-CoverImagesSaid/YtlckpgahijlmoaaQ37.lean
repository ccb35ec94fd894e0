/- R11's Generators: the walk. -/
import Derived.Test.YtlckpgahijlmoaaQ35
import Derived.Test.YtlckpgahijlmoaaQ36
import Derived.Test.YtlckpgahijlmoaaQ13
import Derived.Test.YtlckpgahijlmoaaQ29
set_option maxRecDepth 100000
set_option maxHeartbeats 8000000
namespace Go.Proofs.Ytlckpgahijlmoaa
section
open Go.RowKit Go.Shelf Go.Maps
def mtI (h:Nat→Bool)(x:Nat):Int:=if h x=true then 1 else 0
def trD (tr:Nat→Bool)(p:Nat×Nat):Option Bool:=if p.2<4∧tr (4*p.1+p.2)=true then some true else none
theorem trD_put {tr:Nat→Bool}{q f:Nat}(hf:f<4)(p:Nat×Nat):(if p=(q,f) then some true else trD tr p)=trD (fun k=>k==4*q+f || tr k) p:=by
 unfold trD
 obtain⟨a,b⟩:=p
 by_cases hb:b<4
 ·by_cases e:(a,b)=(q,f)
  ·obtain⟨rfl,rfl⟩:a=q∧b=f:=by simpa using e
   simp[hf]
  ·have:¬4*a+b=4*q+f:=fun h=>e (by rw[show a=q by omega,show b=f by omega])
   rw[if_neg e]
   simp[hb,this]
 ·have e:¬(a,b)=(q,f):=fun h=>by
   have h2:a=q∧b=f:=by simpa using h
   omega
  rw[if_neg e]
  simp[hb]
structure TE (w W:World)(N n:Nat)(v qv:Value)(qs:List Nat)(h tr:Nat→Bool):Prop where
 t:TQ w W N n v qv qs (mtI h)
 o:∃nn,MapIs W 83 okp kp Value.bool (N+1) nn (trD tr)
theorem TE.kept {w W W':World}{N n:Nat}{v qv:Value}{qs:List Nat}{h tr:Nat→Bool}(hq:TE w W N n v qv qs h tr)(hg:W.grownBy W' none):TE w W' N n v qv qs h tr:=by
 obtain⟨n2,h2⟩:=hq.o
 exact⟨hq.t.kept hg,⟨n2,h2.kept hg (by simp)⟩⟩
theorem TE.put {w W W':World}{N n nn q f:Nat}{v qv:Value}{qs:List Nat}{h tr:Nat→Bool}(hq:TE w W N n v qv qs h tr)(hf:f<4)(hm:MapIs W' 83 okp kp Value.bool (N+1) nn (fun p=>if p=(q,f) then some true else trD tr p))(hg:W.grownBy W' (some (N+1))):TE w W' N n v qv qs h (fun k=>k==4*q+f || tr k):=
 ⟨hq.t.outp hm hg,⟨nn,hm.congr (fun p=>trD_put hf p)⟩⟩
theorem mtI_put (h:Nat→Bool)(x:Nat):(fun i=>if i=x then 1 else mtI h i)=mtI (fun i=>i==x || h i):=by
 funext i;unfold mtI;by_cases e:i=x<;>simp[e]
theorem btree_walk (G:Gl)(hok:za9 G=true)(v:Value)(w:World)(hG:GlAt w.heap.size w v G) :
  Calls Try.prog 70 #[.agg #[v]] w fun e w'=>∃b nn,e=.returned (.map (some b))∧MapIs w' 83 okp kp Value.bool b nn (trD (treeB G))∧w.heap.size≤b∧Below w.heap.size w w':=by
 have hn:G.n≤1000:=by simp only[za9,Bool.and_eq_true,decide_eq_true_eq] at hok;exact hok.1
 have hmm:=@run_makeMap Try.prog
 have HG:=Hd2 hok hG
 obtain⟨a,cap,rfl⟩:∃a cap,v=.slice a G.n cap:=by obtain⟨a,_,_,cap,e,_⟩:=hG;exact⟨a,cap,e⟩
 clear hok hG
 generalize hN:w.heap.size=N at *
 obtain⟨n,hne⟩:∃n,n=G.n:=⟨_,rfl⟩
 rw[←hne] at hn ⊢
 have HNN:=Hd2 hN hne
 clear hne
 by_cases hn0:n=0
 ·subst hn0
  go_enter Try.func70,Try.ntmps70
  go_wp2
  go_ret
  subst hN
  refine⟨_,0,rfl,?_,by simp,by (repeat' (first | assumption | exact Below.refl _ _ | refine za7 ?_ (by assumption) | refine zb2 ?_ _ | refine za5 ?_ | refine zb1 ?_ (by simp<;>omega) _))⟩
  have h0:=MapIs.made (k:=83) (ok:=okp) (κ:=kp) (ν:=Value.bool) (w.alloc (.cells #[.slice a 0 cap] 24))
  have h1:=h0.congr (D':=trD (treeB G)) (fun p=>by unfold trD treeB;rw[←HNN.out.2];simp[bf,bf0,lp])
  simpa using h1
 ·have q1:((n:Int)==0)=false:=by simp;omega
  have hmd:MapIs (((w.alloc (.cells #[.slice a n cap] 24)).alloc (.map #[] 0)).alloc (.map #[] 0)) 3 okI mI Value.bool (N+1+1) 0 (fun _=>none):=by
   have:=MapIs.made (k:=3) (ok:=okI) (κ:=mI) (ν:=Value.bool) ((w.alloc (.cells #[.slice a n cap] 24)).alloc (.map #[] 0))
   simpa [hN] using this
  have hmo:MapIs (((w.alloc (.cells #[.slice a n cap] 24)).alloc (.map #[] 0)).alloc (.map #[] 0)) 83 okp kp Value.bool (N+1) 0 (fun _=>none):=by
   have:=MapIs.made (k:=83) (ok:=okp) (κ:=kp) (ν:=Value.bool) (w.alloc (.cells #[.slice a n cap] 24))
   have h2:=this.kept (World.grownBy_alloc _ (.map #[] 0) none) (by simp)
   simpa [hN] using h2
  have hcc:(((w.alloc (.cells #[.slice a n cap] 24)).alloc (.map #[] 0)).alloc (.map #[] 0)).cell? ⟨N,0,none⟩=some (.slice a n cap):=za4 (za4 (World.cell?_alloc_at _ _ _ _ hN.symm) _) _
  have hbb:Below N w (((w.alloc (.cells #[.slice a n cap] 24)).alloc (.map #[] 0)).alloc (.map #[] 0)):=by subst hN;(repeat' (first | assumption | exact Below.refl _ _ | refine za7 ?_ (by assumption) | refine zb2 ?_ _ | refine za5 ?_ | refine zb1 ?_ (by simp<;>omega) _))
  have H0:=Hd4 hmd hmo hcc hbb
  clear hmd hmo hcc hbb
  go_enter Try.func70,Try.ntmps70
  go_wp2_with (first
   |(refine wpList_insert (a:=(0:Nat)) (c:=true) (κ:=mI) (ν:=Value.bool) (D:=fun _=>none) (ok:=okI) (k:=3) rfl 182 (.tmp 15) (.const (.int .i64 0)) (.const (.bool true)) rfl codesI und182 H0.out.1 okI0 rfl rfl rfl ?_;intro W1 h1 h2 h3;have H1:=Hd3 h1 h2 h3;clear h1 h2 h3))
  obtain⟨D,hD⟩:∃D,D=W1.heap.size:=⟨_,rfl⟩
  rw[←hD]
  refine zb3 fun W2 hW2=>?_
  have hQ0:TQ w W2 N n (.slice a n cap) (.slice (some ⟨D,0,none⟩) 1 1) [0] (fun i=>if i=0 then 1 else 0)∧∃nn,MapIs W2 83 okp kp Value.bool (N+1) nn (fun _=>none):=by
   obtain⟨h1,h2,h3⟩:=H1.out
   obtain⟨m1,m2,cc,bb⟩:=H0.out
   have hs1:W1.heap.size=N+3:=by rw[h3];simp[hN]
   have hal:=World.grownBy_alloc W1 (.cells #[.int .i64 0] 3) none
   rw[←hW2] at hal
   have hown:=World.ownsRow_lit (base:=N+3) (e:=3) (size:=1) W1 #[.int .i64 0] 1 (by omega) (by decide) rfl
   rw[←hW2,←hD] at hown
   refine⟨⟨hown,⟨_,(h1.kept hal (by simp)).congr (fun x=>?_)⟩,⟨_,_,(m2.kept h2 (by simp)).kept hal (by simp)⟩,fun q hq=>by simp at hq;omega,?_,hal.cell (h2.cell cc (by simp;omega)) (by simp),(bb.grown h2 (by simp;omega) (fun r e=>by cases e;omega)).grown hal (by omega) (fun r e=>by cases e)⟩,_,(m2.kept h2 (by simp)).kept hal (by simp)⟩
   ·by_cases e:x=0<;>simp[e]
   ·have:=nzc_set (s:=fun _=>0) (m:=n) (j:=0) (x:=1) (by omega) rfl (by decide)
    rw[this];simp
  have hQ:TE w W2 N n (.slice a n cap) (.slice (some ⟨D,0,none⟩) 1 1) (bf G 0).q (bf G 0).h (bf G 0).tr:=by
   obtain⟨h1,nn,h2⟩:=hQ0
   refine⟨?_,nn,h2.congr (fun p=>by simp[trD,bf,bf0,lp])⟩
   have:mtI (bf G 0).h=fun i=>if i=0 then 1 else 0:=by funext i;simp[mtI,bf,bf0,lp]
   rw[this];exact h1
  have HQ:=Lib.hid hQ
  clear hQ hQ0 hW2 hD
  go_loopw [5,6] (fun lv i wr=>∃(j:Nat),j≤(bf G j).q.length∧i=.int .i64 j∧TE w wr N n (.slice a n cap) lv (bf G j).q (bf G j).h (bf G j).tr) (fun _ i _=>n-(intOf i).toNat)
  case atStart=>exact⟨0,by omega,rfl,HQ.out⟩
  case round=>
   clear HQ
   obtain⟨j,hj,rfl,hPE⟩:=hrel
   obtain⟨qs,hqs⟩:∃qs,qs=(bf G j).q:=⟨_,rfl⟩
   rw[←hqs] at hj
   have HQS:=Lib.hid hqs
   have hP:=hPE.t
   rw[←hqs] at hP
   have HPE:=Lib.hid hPE
   clear hPE hqs
   obtain⟨la,lc,rfl⟩:=za8 hP.own
   have HP:=Lib.hid hP
   have hlk:qs.length≤n:=Nat.le_trans hP.cnt (nzc_le _ _)
   rcases Nat.lt_or_ge j qs.length with hjl | hjl
   ·obtain⟨q,hq⟩:∃q,qs[j]?=some q:=⟨_,List.getElem?_eq_getElem hjl⟩
    obtain⟨g,gc,hge,hqc,hqk⟩:=hP.qcell hq
    obtain⟨rfl,-,rfl⟩:la=some ⟨g,0,none⟩∧qs.length=qs.length∧lc=gc:=by simpa using hge
    obtain⟨_,b,off,_,hve,hga,hgc⟩:=HG.out.2
    simp only[Value.slice.injEq,true_and] at hve
    obtain⟨hva,hvc⟩:=hve
    obtain⟨hN2,hne2⟩:=HNN.out
    obtain⟨hab,hbB⟩:=hga (by omega)
    rw[hab] at hva
    subst hva
    have hrow:zb9 wr.drew b (off+q*20) G q:=by
     have:=ze5 (W:=w) hgc q (by omega)
     intro jj hjj
     rw[←this jj hjj]
     exact (za5 hP.bel).cell (p:=⟨b,off+q*20+jj,none⟩) (by exact hbB)
    have hrg:=zb9.range hrow
    have c0:wr.drew.cell? ⟨N,0,none⟩=some (.slice (some ⟨b,off,none⟩) n cap):=hP.c0
    replace hqc:wr.drew.cell? ⟨g,j,none⟩=some (.int .i64 (q:Int)):=hqc
    have j0:0≤(j:Int):=by omega
    have jl:(j:Int)<(qs.length:Int):=by omega
    have q0:0≤(q:Int):=by omega
    have qk:(q:Int)<(n:Int):=by omega
    have H5:=Hd2 (HPE.out.kept (zb0 _ none)) hq
    clear HP HPE hge hga hgc hvc hN2 hne2 hab hbB hrow hq
    go_wp2
    refine wp_region_still_lit (by kernel_rfl) (by kernel_rfl) ?_
    repeat (first|(refine zf6 rfl 88 (.tmp 30) rfl b (off+q*20) rfl (rowA G q) _ hrg Try.underlying88 rfl (by kernel_rfl) ?_)|(refine wpStill_step (fun K hK=>?_);go_simp;refine hK _ ?_;clear hK K))
    refine wpStill_nil ?_
    go_wp2
    clear hqc c0 hrg
    have H5q:=Lib.hid H5.out.2
    go_loopw [5,32] (fun lv i wr=>∃(f:Nat),f≤4∧i=.int .i64 f∧(lp (bfF G q) (bf G j) f).q[j]?=some q∧TE w wr N n (.slice (some ⟨b,off,none⟩) n cap) lv (lp (bfF G q) (bf G j) f).q (lp (bfF G q) (bf G j) f).h (lp (bfF G q) (bf G j) f).tr) (fun _ i _=>4-(intOf i).toNat)
    case atStart=>exact⟨0,by omega,rfl,by rw[HQS.out] at H5;exact H5.out.2,H5.out.1⟩
    case round=>
     clear H5
     obtain⟨f,hf,rfl,hjq,hPE⟩:=hrel
     obtain⟨s,hs⟩:∃s,s=lp (bfF G q) (bf G j) f:=⟨_,rfl⟩
     rw[←hs] at hjq hPE
     have HS:=Lib.hid hs
     obtain⟨qs',hqs'⟩:∃qs',qs'=s.q:=⟨_,rfl⟩
     obtain⟨h3,hh3⟩:∃h3,h3=mtI s.h:=⟨_,rfl⟩
     have hP:=hPE.t
     rw[←hqs',←hh3] at hP
     rw[←hqs'] at hjq
     have HSS:=Hd2 hqs' hh3
     have HPE:=Lib.hid hPE
     clear hPE hs hqs' hh3
     obtain⟨la',lc',rfl⟩:=za8 hP.own
     have HP:=Hd2 hP hjq
     have hlk':qs'.length≤n:=Nat.le_trans hP.cnt (nzc_le _ _)
     rcases Nat.lt_or_ge f 4 with hf4 | hf4
     ·have hix:=fun w=>ze2 G q f hf4 w
      unfold faceA at hix
      have hkk:4*q+f<4*G.n:=by have:=HNN.out.2;omega
      obtain⟨T,hT⟩:∃T,T=G.tet (4*q+f):=⟨_,rfl⟩
      rw[←hT] at hix
      have HTT:=Lib.hid hT
      rcases Int.lt_or_le T 0 with hT0 | hT0
      ·have q1:decide (0≤T)=false:=by simp;omega
       clear hP hT hjq
       go_wp2
       have hst:lp (bfF G q) (bf G j) (f+1)=s:=by
        show bfF G q f (lp (bfF G q) (bf G j) f)=s
        rw[←HS.out];unfold bfF;rw[if_pos (.inl (by rw[←HTT.out];exact hT0))]
       exact⟨⟨f+1,by omega,by simp,by rw[hst,←HSS.out.1];exact HP.out.2,by rw[hst];exact HPE.out.kept (World.grownBy_alloc _ _ _)⟩,by simp[intOf];omega⟩
      ·obtain⟨e1,e2,e3⟩:=zc6 HG.out.1 hkk (by omega)
       obtain⟨x,hx,hxT⟩:∃x:Nat,(T=(x:Int)∧x<n)∧x=G.T (4*q+f):=⟨G.T (4*q+f),⟨by rw[hT,e1],by have:=HNN.out.2;omega⟩,rfl⟩
       obtain⟨rfl,hxk⟩:=hx
       have hpf:=e3 f hf4
       obtain⟨P,hPf,hPP⟩:∃P:Nat,(G.pm (4*q+f) f=(P:Int)∧P<4)∧P=G.P (4*q+f) f:=⟨_,⟨hpf.1,hpf.2⟩,rfl⟩
       have hxP:4*x+P=tb G (4*q+f):=by unfold tb;rw[hxT,hPP,show (4*q+f) % 4=f by omega]
       have HXP:=Hd2 hxT hxP
       have HH3:=Lib.hid (show h3 x=mtI s.h x by rw[HSS.out.2])
       obtain⟨nn,hmet⟩:=hP.met
       have okx:okI x:=by show x<9223372036854775808;omega
       have hlook:∀o,(Instr.lookup 182 (.map (some (N+2))) (.int .i64 (x:Int)) false).run Try.prog (wr.alloc o)=.ok (.bool (!(h3 x==0))) (wr.alloc o):=fun o=>by
        have:=(hmet.kept (World.grownBy_alloc wr o none) (by simp)).look codesI und182 (zero4 _) false x okx
        unfold mI at this
        rw[this]
        by_cases e:h3 x=0<;>simp[e]
       have HM:=Lib.hid (fun o=>hmet.kept (World.grownBy_alloc wr o none) (by simp))
       have q1:decide (0≤(x:Int))=true:=by simp
       have x0:0≤(x:Int):=by omega
       have xk:(x:Int)<(n:Int):=by omega
       have HPF:=Lib.hid hPf
       have hFA:∀j v,(zd3 (x:Int) (G.pm (4*q+f)))[j]?=some v→(wr.alloc (.cells (zd3 (x:Int) (G.pm (4*q+f))) 87)).cell? ⟨wr.heap.size,j,none⟩=some v:=fun j v hv=>(World.cell?_alloc_at _ _ _ _ rfl).trans hv
       have HFA:=Lib.hid hFA
       clear hP hT e1 e2 e3 hpf hPf hmet hjq hFA hxT hPP hxP
       by_cases hh:h3 x=0
       ·have hb1:(h3 x==0)=true:=by simp[hh]
        rw[hb1] at hlook
        have HH:=Lib.hid hh
        clear hh hb1
        obtain⟨j0,hj0,hz30,hz31,hz32⟩:=info_parts info3
        have hA2:N+2<wr.heap.size:=by
         obtain⟨nn2,h2⟩:=HP.out.1.met
         exact h2.lt
        have hown:=HP.out.1.own
        have nown:some wr.heap.size≠(Value.slice la' qs'.length lc').ownBlock:=fun e=>by have:=(hown.lt _ e.symm).2;omega
        have fa0:=HFA.out 0 _ rfl
        have faf:=HFA.out (1+f) _ (zf8 _ _ f hf4)
        rw[HPF.out.1] at faf
        have n2:some wr.heap.size≠some (N+2):=fun e=>by have:=Option.some.inj e;omega
        have n1:some wr.heap.size≠some (N+1):=fun e=>by have:=Option.some.inj e;omega
        have okq:okp (q,f):=⟨by show q<9223372036854775808;omega,by show f<9223372036854775808;omega⟩
        have HO:=Hd6 hown nown fa0 faf n2 n1
        clear hown nown fa0 faf n2 n1
        have hjl9:=(List.getElem?_eq_some_iff.1 HP.out.2).1
        have hjb1:(j:Int)<(qs'.length:Int)+1:=by omega
        have hjb2:(j:Int)<((qs'.length+1:Nat):Int):=by omega
        unfold zd3 at HO
        go_wp2_with (first
         |(refine zg3 (a:=x) (c:=true) (κ:=mI) (ν:=Value.bool) rfl 182 (.tmp 46) (.tmp 48) (.const (.bool true)) rfl codesI und182 (HM.out _) okx rfl rfl rfl ?_;intro W3 m1 m2 m3;have y3:=m2.cell HO.out.2.2.1 HO.out.2.2.2.2.1;have H3:=Hd3 m1 m2 m3;clear m1 m2 m3)
         |(at_builtin;refine (wpList_append_lies _ rfl (.tmp 49) (.tmp 52) 35 rfl (N+3) 3 j0 _ 1 8 und35 hj0 hz30 hz31 hz32 rfl (by omega) (.slice la' qs'.length lc') qs'.length _ rfl (((HO.out.1.alloc _).kept H3.out.2.1 (.inr (fun e=>by have:=(HO.out.1.lt _ e).1;omega))).alloc _) ⟨W3.heap.size,0,none⟩ 1 1 [.int .i64 (x:Int)] rfl rfl (World.news_of_block (cs:=#[.int .i64 (x:Int)]) (MapKept.heap_alloc W3 _).1) (by simp[Value.oneCell']) (by omega) (by unfold maxLen;omega) (by omega) (by have:=H3.out.2.1.size;simp at this ⊢;omega) (W3.heap.size+1) (by simp) ?_);intro g9 c9 w9 r1 r2 r3 r4;have hQ9:=(HP.out.1.kept (World.grownBy_alloc wr _ none)).push hxk HH.out H3.out.1 H3.out.2.1 (World.grownBy_alloc W3 _ none) r1 r2;have y9:=r2.cell (za4 y3 _) HO.out.2.1;have z9:=r2.cell (za4 (H3.out.2.1.cell HO.out.2.2.2.1 HO.out.2.2.2.2.1) _) HO.out.2.1;obtain⟨ge',ce',he',l9,-⟩:=hQ9.qcell (k:=j) (q:=q) (by rw[List.getElem?_append_left (List.getElem?_eq_some_iff.1 HP.out.2).1];exact HP.out.2);obtain rfl:=slice_blk he';obtain⟨nn0,ho0⟩:=HPE.out.o;have ho9:=(((ho0.kept (World.grownBy_alloc wr _ none) (by simp)).kept H3.out.2.1 (by simp)).kept (World.grownBy_alloc W3 _ none) (by simp)).kept r2 (HP.out.1.lo _ (by omega));have hE9:=TE.mk (h:=fun i=>i==x || s.h i) (tr:=s.tr) (by rw[←mtI_put,←HSS.out.2];exact hQ9) ⟨_,ho9⟩;have H9:=Hd4 hE9 y9 z9 ho9;clear r1 r2 r3 r4 hQ9 z9 ho9 ho0 hE9 he')
         |(refine zg3 (a:=(q,f)) (c:=true) (κ:=kp) (ν:=Value.bool) rfl 127 (.tmp 54) (.tmp 60) (.const (.bool true)) rfl codes83 und127 H9.out.2.2.2 okq rfl rfl rfl ?_;intro W6 p1 p2 p3;have HR:=Hd3 (H9.out.1.put hf4 p1 p2) (p2.cell H9.out.2.1 HO.out.2.2.2.2.2) (p2.cell H9.out.2.2.1 HO.out.2.2.2.2.2);clear p1 p2 p3))
        go_frame
        have y6:W6.drew.cell? ⟨wr.heap.size,0,none⟩=some (.int .i64 (x:Int)):=HR.out.2.1
        have z6:W6.drew.cell? ⟨wr.heap.size,1+f,none⟩=some (.int .i64 (P:Int)):=HR.out.2.2
        obtain⟨nn6,ho6⟩:=HR.out.1.o
        have ho7:MapIs W6.drew 83 okp kp Value.bool (N+1) nn6 (trD (fun k=>k==4*q+f || s.tr k)):=ho6.of_block rfl
        have okxp:okp (x,P):=⟨by show x<9223372036854775808;omega,by show P<9223372036854775808;have:=HPF.out.2;omega⟩
        have H7:=Hd2 (HR.out.1.kept (zb0 _ none)) ho7
        have f4:(f:Int)<4:=by omega
        have f0:0≤(f:Int):=by omega
        clear ho6 ho7 l9 y9 y3 hjb1 hjb2
        refine zd8 8 (by kernel_rfl) (by kernel_rfl) (fun Q2 hQ2=>?_)
        repeat (refine zg0 (fun K hK=>?_);go_simp;refine hK _ ?_;clear hK K)
        refine wpSt_nil (hQ2 _ ?_)
        clear hQ2 Q2
        simp only[List.drop_succ_cons,List.drop_zero]
        refine zg3 (a:=(x,P)) (c:=true) (κ:=kp) (ν:=Value.bool) rfl 127 (.tmp 61) (.tmp 68) (.const (.bool true)) rfl codes83 und127 H7.out.2 okxp rfl rfl rfl ?_
        intro W7 p1 p2 p3
        have H8:=Lib.hid (H7.out.1.put HPF.out.2 p1 p2)
        clear p1 p2 p3
        go_frame
        go_wp2
        go_roundw
        case rel=>
         have hst:lp (bfF G q) (bf G j) (f+1)=⟨qs'++[x],fun y=>y==x || s.h y,fun k=>k==4*x+P || (k==4*q+f || s.tr k)⟩:=by
          show bfF G q f (lp (bfF G q) (bf G j) f)=_
          have hsx:s.h x=false:=by
           cases hb:s.h x with
           | false=>rfl
           | true=>
            have:=HH.out
            rw[HH3.out,mtI,hb] at this;cases this
          rw[←HS.out];unfold bfF
          rw[if_neg ?_,←HXP.out.1,←HXP.out.2,HSS.out.1]
          rintro (c | c)
          ·rw[←HTT.out] at c;omega
          ·rw[←HXP.out.1,hsx] at c;cases c
         refine⟨f+1,by omega,rfl,?_,?_⟩
         ·rw[hst]
          show (qs'++[x])[j]?=some q
          rw[List.getElem?_append_left (List.getElem?_eq_some_iff.1 HP.out.2).1];exact HP.out.2
         ·rw[hst];simpa using H8.out
        case measure=>simp[intOf];omega
       ·have hb1:(h3 x==0)=false:=by simp[hh]
        rw[hb1] at hlook
        have HNE:=Lib.hid hh
        clear hh hb1
        go_wp2
        have hsx:s.h (G.T (4*q+f))=true:=by
         rw[←HXP.out.1]
         cases hb:s.h x with
         | true=>rfl
         | false=>exact absurd (show h3 x=0 by rw[HH3.out,mtI,hb];simp) HNE.out
        have hst:lp (bfF G q) (bf G j) (f+1)=s:=by
         show bfF G q f (lp (bfF G q) (bf G j) f)=s
         rw[←HS.out];unfold bfF;rw[if_pos (.inr hsx)]
        exact⟨⟨f+1,by omega,by simp,by rw[hst,←HSS.out.1];exact HP.out.2,by rw[hst];exact HPE.out.kept (World.grownBy_alloc _ _ _)⟩,by simp[intOf];omega⟩
     ·obtain rfl:f=4:=by omega
      clear hP hjq
      go_wp2
      have:=(List.getElem?_eq_some_iff.1 HP.out.2).1
      have hst:bf G (j+1)=s:=by rw[bf_succ (a:=q) (by rw[←HQS.out];exact H5q.out),HS.out]
      exact⟨⟨j+1,by rw[hst,←HSS.out.1];omega,by simp,by rw[hst];exact HPE.out⟩,by simp[intOf];omega⟩
   ·obtain rfl:j=qs.length:=by omega
    clear hP
    go_wp2
    go_ret
    obtain⟨nn,hm⟩:=HPE.out.o
    refine⟨_,nn,rfl,?_,by omega,HP.out.bel⟩
    rw[←tree_fin (G:=G) (j:=qs.length) (by rw[←HNN.out.2];exact hlk) (by rw[←HQS.out];exact Nat.le_refl _)]
    exact hm
end
section
open Go.RowKit Go.Shelf Go.Maps
theorem und183:Try.prog.underlying 183=some (.slice 180):=by kernel_rfl
theorem info180:(Try.prog.info? 180).map (fun i=>(i.zero,i.size,i.bytes))=some (some (.agg #[.bool false,.bool false,.bool false,.bool false]),4,4):=by kernel_rfl
theorem run_make_rowc {P:Go.Program}(t e:TypeId)(z:Value)(c bytes:Nat)(ht:P.underlying t=some (.slice e))(hinfo:(P.info? e).map (fun i=>(i.zero,i.size,i.bytes))=some (some z,c,bytes))
  (n:Nat) (hbytes:bytes*n≤281474976710656) (h63:n≤9223372036854775807) (w:World) :
  (Instr.makeSlice t (.int .i64 (n:Int)) (.int .i64 (n:Int))).run P w=.ok (.slice (some ⟨w.heap.size,0,none⟩) n n) (w.alloc (.cells (madeCells z.cells (n*c)) e)):=by
 obtain⟨i,hi,hzz⟩:=Option.map_eq_some_iff.1 hinfo
 simp only[Prod.mk.injEq] at hzz
 obtain⟨hz,hs,hb⟩:=hzz
 have hb':(i.bytes:Int)*(n:Int)≤281474976710656:=by
  have h:((i.bytes*n:Nat):Int)≤281474976710656:=by rw[hb];omega
  rwa [Int.natCast_mul] at h
 have hr:=run_make (P:=P) w t e i z ht hi hz .i64 .i64 n n (by omega) (Int.le_refl _) hb' (by omega)
 simp only[Int.toNat_natCast,hs] at hr
 exact hr
theorem made4 (W:World)(z:Value)(n:Nat)(t:TypeId):(W.alloc (.cells (madeCells #[z,z,z,z] (n*4)) t)).rowIs W.heap.size t (4*n) (fun _=>z):=
 ⟨_,heap_alloc_new _ _,by rw[size_madeCells,Nat.mul_comm],fun i hi=>by
  have h4:i % 4<4:=Nat.mod_lt _ (by omega)
  have:i<n*4:=by omega
  rcases (show i % 4=0∨i % 4=1∨i % 4=2∨i % 4=3 by omega) with e | e | e | e<;>simp[madeCells,this,e]⟩
structure GT (w W:World)(N n:Nat)(v qv:Value)(qs:List Nat)(h tr:Nat→Bool)(sl:Nat):Prop where
 own:W.ownsRow (N+4) 3 1 qv qs.length (qs.map fun (q:Nat)=>Value.int .i64 (q:Int))
 seen:W.rowIs (N+1+1+1) 4 n (fun x=>.bool (h x))
 tree:W.rowIs (N+1+1) 180 (4*n) (fun k=>.bool (tr k))
 outz:W.rowIs (N+1) 84 (4*n) (fun _=>.int .i64 0)
 qlt:∀q∈qs,q<n
 cnt:qs.length+sl≤nzc (mtI h) n
 c0:W.cell? ⟨N,0,none⟩=some v
 bel:Below N w W
section
variable {w W W':World}{N n sl:Nat}{v qv:Value}{qs:List Nat}{h tr:Nat→Bool}
theorem GT.lo (hq:GT w W N n v qv qs h tr sl):∀b,b<N+4→some b≠qv.ownBlock:=fun b hb e=>by have:=(hq.own.lt b e.symm).1;omega
theorem GT.kept (hq:GT w W N n v qv qs h tr sl)(hg:W.grownBy W' none):GT w W' N n v qv qs h tr sl:=
 ⟨hq.own.kept hg (by cases qv.ownBlock<;>simp),za3 hq.seen hg (by simp),za3 hq.tree hg (by simp),za3 hq.outz hg (by simp),hq.qlt,hq.cnt,hg.cell hq.c0 (by simp),hq.bel.grown hg (by have:=za0 hq.c0;simp only at this;omega) (fun k e=>by cases e)⟩
theorem GT.mark (hq:GT w W N n v qv qs h tr sl)(j:Nat):GT w (W.setCell ⟨N+1+1,j,none⟩ (.bool true)) N n v qv qs h (fun k=>k==j || tr k) sl:=by
 have hg:=za1 W (N+1+1) j (.bool true)
 refine⟨hq.own.kept hg (.inr (fun e=>hq.lo _ (by omega) e.symm)),za3 hq.seen hg (by simp),?_,za3 hq.outz hg (by simp),hq.qlt,hq.cnt,hg.cell hq.c0 (by simp;omega),hq.bel.setCell (by show N≤N+1+1;omega) _⟩
 exact (hq.tree.set j _).congr (fun i _=>by by_cases e:i=j<;>simp[e])
theorem GT.see (hq:GT w W N n v qv qs h tr sl){x:Nat}(hx:x<n)(h0:h x=false):GT w (W.setCell ⟨N+1+1+1,x,none⟩ (.bool true)) N n v qv qs (fun i=>i==x || h i) tr (sl+1):=by
 have hg:=za1 W (N+1+1+1) x (.bool true)
 refine⟨hq.own.kept hg (.inr (fun e=>hq.lo _ (by omega) e.symm)),?_,za3 hq.tree hg (by simp),za3 hq.outz hg (by simp),hq.qlt,?_,hg.cell hq.c0 (by simp;omega),hq.bel.setCell (by show N≤N+1+1+1;omega) _⟩
 ·exact (hq.seen.set x _).congr (fun i _=>by by_cases e:i=x<;>simp[e])
 ·have:=nzc_set (s:=mtI h) (m:=n) (j:=x) (x:=1) hx (by simp[mtI,h0]) (by decide)
  rw[mtI_put] at this
  rw[this]
  have:=hq.cnt
  omega
theorem GT.push {W2 w3:World}{g cap:Nat}(hq:GT w W N n v qv qs h tr (sl+1)){x:Nat}(hx:x<n)(hg2:W.grownBy W2 none)
  (a1:w3.ownsRow (N+4) 3 1 (.slice (some ⟨g,0,none⟩) (qs.length+1) cap) (qs.length+1) ((qs.map fun (q:Nat)=>Value.int .i64 (q:Int))++[.int .i64 (x:Int)])) (a2:W2.grownBy w3 qv.ownBlock) :
  GT w w3 N n v (.slice (some ⟨g,0,none⟩) (qs.length+1) cap) (qs++[x]) h tr sl:=by
 have h1:=hq.kept hg2
 have hN:=za0 hq.c0
 simp only at hN
 have hs2:=hg2.size
 refine⟨by simpa using a1,za3 h1.seen a2 (hq.lo _ (by omega)),za3 h1.tree a2 (hq.lo _ (by omega)),za3 h1.outz a2 (hq.lo _ (by omega)),fun q hm=>?_,?_,a2.cell h1.c0 (hq.lo N (by omega)),h1.bel.grown a2 (by omega) (fun k e=>by have:=(hq.own.lt k e).1;omega)⟩
 ·rcases List.mem_append.1 hm with q1 | q1
  ·exact hq.qlt q q1
  ·simp at q1;omega
 ·have:=hq.cnt
  simp;omega
theorem GT.qcell (hq:GT w W N n v qv qs h tr sl){k q:Nat}(hk:qs[k]?=some q):∃g cap,qv=.slice (some ⟨g,0,none⟩) qs.length cap∧W.cell? ⟨g,k,none⟩=some (.int .i64 ((q:Nat):Int))∧q<n∧N+4≤g∧g<W.heap.size:=by
 have hkl:=(List.getElem?_eq_some_iff.1 hk).1
 obtain⟨g,cap,hv,_⟩:=hq.own.form (by omega)
 refine⟨g,cap,hv,?_,hq.qlt _ (List.mem_of_getElem? hk),(hq.own.lt g (by rw[hv];rfl)).1,(hq.own.lt g (by rw[hv];rfl)).2⟩
 have:=hq.own.cells (g:=g) (by rw[hv];rfl) k (.int .i64 (q:Nat)) (by simp[hk])
 rwa [Addr.add_mid,Nat.zero_add] at this
end
structure GL (w W:World)(N n:Nat)(v:Value)(tr:Nat→Bool)(o:Nat→Int):Prop where
 tree:W.rowIs (N+1+1) 180 (4*n) (fun k=>.bool (tr k))
 out:W.rowIs (N+1) 84 (4*n) (fun k=>.int .i64 (o k))
 c0:W.cell? ⟨N,0,none⟩=some v
 bel:Below N w W
section
variable {w W W':World}{N n:Nat}{v:Value}{tr:Nat→Bool}{o:Nat→Int}
theorem GL.kept (hq:GL w W N n v tr o)(hg:W.grownBy W' none):GL w W' N n v tr o:=
 ⟨za3 hq.tree hg (by simp),za3 hq.out hg (by simp),hg.cell hq.c0 (by simp),hq.bel.grown hg (by have:=za0 hq.c0;simp only at this;omega) (fun k e=>by cases e)⟩
theorem GL.put (hq:GL w W N n v tr o)(j:Nat)(x:Int):GL w (W.setCell ⟨N+1,j,none⟩ (.int .i64 x)) N n v tr (fun k=>if k=j then x else o k):=by
 have hg:=za1 W (N+1) j (.int .i64 x)
 refine⟨za3 hq.tree hg (by simp),?_,hg.cell hq.c0 (by simp),hq.bel.setCell (by show N≤N+1;omega) _⟩
 exact (hq.out.set j _).congr (fun i _=>by by_cases e:i=j<;>simp[e])
theorem GL.congr {o':Nat→Int}(hq:GL w W N n v tr o)(e:∀k,k<4*n→o k=o' k):GL w W N n v tr o':=
 ⟨hq.tree,hq.out.congr (fun k hk=>by rw[e k hk]),hq.c0,hq.bel⟩
end
end
section
open Go.RowKit Go.Shelf Go.Maps
theorem gens_walk (G:Gl)(hok:za9 G=true)(v:Value)(w:World)(hG:GlAt w.heap.size w v G) :
  Calls Try.prog 72 #[.agg #[v]] w fun e w'=>∃o,e=.returned (.tuple #[.slice (some ⟨o,0,none⟩) G.n G.n,.int .i64 (gnN G (4*G.n):Nat)])∧w'.rowIs o 84 (4*G.n) (fun k=>.int .i64 (ltrI G k))∧w.heap.size≤o∧Below w.heap.size w w':=by
 have hn:G.n≤1000:=zg5 hok
 have HG:=Hd2 hok hG
 obtain⟨a,cap,rfl⟩:∃a cap,v=.slice a G.n cap:=by obtain⟨a,_,_,cap,e,_⟩:=hG;exact⟨a,cap,e⟩
 clear hok hG
 generalize hN:w.heap.size=N at *
 obtain⟨n,hne⟩:∃n,n=G.n:=⟨_,rfl⟩
 rw[←hne] at hn ⊢
 have HNN:=Hd2 hN hne
 have hmk1:∀w,(Instr.makeSlice 49 (.int .i64 (n:Int)) (.int .i64 (n:Int))).run Try.prog w=.ok (.slice (some ⟨w.heap.size,0,none⟩) n n) (w.alloc (.cells (madeCells #[.int .i64 0,.int .i64 0,.int .i64 0,.int .i64 0] (n*4)) 84)):=run_make_rowc (P:=Try.prog) 49 84 _ 4 32 und49 info84 n (by omega) (by omega)
 have hmk2:∀w,(Instr.makeSlice 183 (.int .i64 (n:Int)) (.int .i64 (n:Int))).run Try.prog w=.ok (.slice (some ⟨w.heap.size,0,none⟩) n n) (w.alloc (.cells (madeCells #[.bool false,.bool false,.bool false,.bool false] (n*4)) 180)):=run_make_rowc (P:=Try.prog) 183 180 _ 4 4 und183 info180 n (by omega) (by omega)
 have hmk3:=run_make_row' (P:=Try.prog) 51 4 (.bool false) 1 und51 info4 rfl .i64 .i64 n (by omega) (by omega)
 clear hne
 by_cases hn0:n=0
 ·have q1:((n:Int)==0)=true:=by simp;omega
  have HN0:=Lib.hid hn0
  clear hn0
  go_enter Try.func72,Try.ntmps72
  go_wp2
  go_ret2
  subst hN
  have h4:=made4 (w.alloc (.cells #[.slice a n cap] 24)) (.int .i64 0) n 84
  have hz:gnN G (4*n)=0:=by rw[HN0.out];rfl
  refine⟨w.heap.size+1,by rw[hz];rfl,?_,by omega,by (repeat' (first | assumption | exact Below.refl _ _ | refine za7 ?_ (by assumption) | refine zb2 ?_ _ | refine za5 ?_ | refine zb1 ?_ (by simp<;>omega) _))⟩
  rw[World.size_alloc] at h4
  exact h4.congr (fun i hi=>by have:=HN0.out;omega)
 ·have q1:((n:Int)==0)=false:=by simp;omega
  have z0:(0:Int)<(n:Int):=by omega
  obtain⟨W3,hW3⟩:∃W3,W3=(((w.alloc (.cells #[.slice a n cap] 24)).alloc (.cells (madeCells #[.int .i64 0,.int .i64 0,.int .i64 0,.int .i64 0] (n*4)) 84)).alloc (.cells (madeCells #[.bool false,.bool false,.bool false,.bool false] (n*4)) 180)).alloc (.cells (madeCells #[.bool false] n) 4):=⟨_,rfl⟩
  have h3:W3.rowIs (N+1) 84 (4*n) (fun _=>.int .i64 0)∧W3.rowIs (N+1+1) 180 (4*n) (fun _=>.bool false)∧W3.rowIs (N+1+1+1) 4 n (fun _=>.bool false)∧W3.cell? ⟨N,0,none⟩=some (.slice a n cap)∧Below N w W3∧W3.heap.size=N+4:=by
   have a1:=made4 (w.alloc (.cells #[.slice a n cap] 24)) (.int .i64 0) n 84
   have a2:=made4 ((w.alloc (.cells #[.slice a n cap] 24)).alloc (.cells (madeCells #[.int .i64 0,.int .i64 0,.int .i64 0,.int .i64 0] (n*4)) 84)) (.bool false) n 180
   have a3:=World.rowIs_made (((w.alloc (.cells #[.slice a n cap] 24)).alloc (.cells (madeCells #[.int .i64 0,.int .i64 0,.int .i64 0,.int .i64 0] (n*4)) 84)).alloc (.cells (madeCells #[.bool false,.bool false,.bool false,.bool false] (n*4)) 180)) (.bool false) n 4
   simp only[World.size_alloc,hN] at a1 a2 a3
   have g:=fun (W:World) (o:Obj)=>World.grownBy_alloc W o none
   rw[hW3]
   refine⟨za3 (za3 a1 (g _ _) (by simp)) (g _ _) (by simp),za3 a2 (g _ _) (by simp),a3,za4 (za4 (za4 (World.cell?_alloc_at _ _ _ _ hN.symm) _) _) _,by subst hN;(repeat' (first | assumption | exact Below.refl _ _ | refine za7 ?_ (by assumption) | refine zb2 ?_ _ | refine za5 ?_ | refine zb1 ?_ (by simp<;>omega) _)),by simp[hN]⟩
  have s0:=h3.2.2.1.cell (i:=0) (by omega)
  have sf:=h3.2.2.1.frozen 0
  rw[hW3] at s0 sf
  have H3:=Hd2 hW3 h3
  clear hW3 h3
  go_enter Try.func72,Try.ntmps72
  go_wp2
  obtain⟨D,hD⟩:∃D,D=N+4:=⟨_,rfl⟩
  refine zb3 fun W4 hW4=>?_
  have hW4:W4=(W3.setCell ⟨N+1+1+1,0,none⟩ (.bool true)).alloc (.cells #[.int .i64 0] 3):=by
   rw[hW4,H3.out.1];simp[go_sem,hN]
  have hQ:GT w W4 N n (.slice a n cap) (.slice (some ⟨D,0,none⟩) 1 1) (bf G 0).q (bf G 0).h (bf G 0).tr 0:=by
   subst hD
   obtain⟨-,h1,h2,h3,h4,h5,h6⟩:=H3.out
   have hal:=World.grownBy_alloc (W3.setCell ⟨N+1+1+1,0,none⟩ (.bool true)) (.cells #[.int .i64 0] 3) none
   rw[←hW4] at hal
   have hsc:=za1 W3 (N+1+1+1) 0 (.bool true)
   have hown:=World.ownsRow_lit (base:=N+4) (e:=3) (size:=1) (W3.setCell ⟨N+1+1+1,0,none⟩ (.bool true)) #[.int .i64 0] 1 (by simp;omega) (by decide) rfl
   rw[←hW4,World.size_setCell,h6] at hown
   have hc:=nzc_set (s:=fun _=>0) (m:=n) (j:=0) (x:=1) (by omega) rfl (by decide)
   have hm:mtI (bf G 0).h=fun i=>if i=0 then 1 else 0:=by funext i;simp[mtI,bf,bf0,lp]
   refine⟨hown,?_,(za3 (za3 h2 hsc (by simp)) hal (by simp)).congr (fun i _=>by simp[bf,bf0,lp]),za3 (za3 h1 hsc (by simp)) hal (by simp),fun q hq=>by simp[bf,bf0,lp] at hq;omega,by rw[hm,hc];simp[bf,bf0,lp],hal.cell (hsc.cell h4 (by simp;omega)) (by simp),(h5.setCell (by show N≤N+1+1+1;omega) _).grown hal (by simp;omega) (fun r e=>by cases e)⟩
   exact (za3 (h3.set 0 (.bool true)) hal (by simp)).congr (fun i _=>by by_cases e:i=0<;>simp[e,bf,bf0,lp])
  have HQ:=Lib.hid hQ
  clear hQ hW4 s0 sf
  rw[show N+4=D from hD.symm]
  clear hD
  go_loopw [7,8] (fun lv i wr=>∃(j:Nat),j≤(bf G j).q.length∧i=.int .i64 j∧GT w wr N n (.slice a n cap) lv (bf G j).q (bf G j).h (bf G j).tr 0) (fun _ i _=>n-(intOf i).toNat)
  case atStart=>exact⟨0,by omega,rfl,HQ.out⟩
  case round=>
   clear HQ
   obtain⟨j,hj,rfl,hPE⟩:=hrel
   obtain⟨qs,hqs⟩:∃qs,qs=(bf G j).q:=⟨_,rfl⟩
   rw[←hqs] at hj
   have HQS:=Lib.hid hqs
   have HPE:=Lib.hid hPE
   have hP:=hPE
   rw[←hqs] at hP
   clear hPE hqs
   obtain⟨la,lc,rfl⟩:=za8 hP.own
   have HP:=Lib.hid hP
   have hlk:qs.length≤n:=Nat.le_trans (Nat.le_of_add_right_le hP.cnt) (nzc_le _ _)
   rcases Nat.lt_or_ge j qs.length with hjl | hjl
   ·obtain⟨q,hq⟩:∃q,qs[j]?=some q:=⟨_,List.getElem?_eq_getElem hjl⟩
    obtain⟨g,gc,hge,hqc,hqk,-,-⟩:=hP.qcell hq
    obtain⟨rfl,-,rfl⟩:la=some ⟨g,0,none⟩∧qs.length=qs.length∧lc=gc:=by simpa using hge
    obtain⟨_,b,off,_,hve,hga,hgc⟩:=HG.out.2
    simp only[Value.slice.injEq,true_and] at hve
    obtain⟨hva,hvc⟩:=hve
    obtain⟨hN2,hne2⟩:=HNN.out
    obtain⟨hab,hbB⟩:=hga (by omega)
    rw[hab] at hva
    subst hva
    have hrow:zb9 wr.drew b (off+q*20) G q:=by
     have:=ze5 (W:=w) hgc q (by omega)
     intro jj hjj
     rw[←this jj hjj]
     exact (za5 hP.bel).cell (p:=⟨b,off+q*20+jj,none⟩) (by exact hbB)
    have hrg:=zb9.range hrow
    have c0:wr.drew.cell? ⟨N,0,none⟩=some (.slice (some ⟨b,off,none⟩) n cap):=hP.c0
    replace hqc:wr.drew.cell? ⟨g,j,none⟩=some (.int .i64 (q:Int)):=hqc
    have j0:0≤(j:Int):=by omega
    have jl:(j:Int)<(qs.length:Int):=by omega
    have q0:0≤(q:Int):=by omega
    have qk:(q:Int)<(n:Int):=by omega
    have H5:=Hd2 (HPE.out.kept (zb0 _ none)) hq
    clear HP HPE hge hga hgc hvc hN2 hne2 hab hbB hrow hq hP
    go_wp2
    refine wp_region_still_lit (by kernel_rfl) (by kernel_rfl) ?_
    repeat (first|(refine zf6 rfl 88 (.tmp 48) rfl b (off+q*20) rfl (rowA G q) _ hrg Try.underlying88 rfl (by kernel_rfl) ?_)|(refine wpStill_step (fun K hK=>?_);go_simp;refine hK _ ?_;clear hK K))
    refine wpStill_nil ?_
    go_wp2
    clear hqc c0 hrg
    have H5q:=Lib.hid H5.out.2
    go_loopw [7,50] (fun lv i wr=>∃(f:Nat),f≤4∧i=.int .i64 f∧(lp (bfF G q) (bf G j) f).q[j]?=some q∧GT w wr N n (.slice (some ⟨b,off,none⟩) n cap) lv (lp (bfF G q) (bf G j) f).q (lp (bfF G q) (bf G j) f).h (lp (bfF G q) (bf G j) f).tr 0) (fun _ i _=>4-(intOf i).toNat)
    case atStart=>exact⟨0,by omega,rfl,by rw[HQS.out] at H5;exact H5.out.2,H5.out.1⟩
    case round=>
     clear H5
     obtain⟨f,hf,rfl,hjq,hPE⟩:=hrel
     obtain⟨s,hs⟩:∃s,s=lp (bfF G q) (bf G j) f:=⟨_,rfl⟩
     rw[←hs] at hjq hPE
     have HS:=Lib.hid hs
     obtain⟨qs',hqs'⟩:∃qs',qs'=s.q:=⟨_,rfl⟩
     have HPE:=Lib.hid hPE
     have hP:=hPE
     rw[←hqs'] at hP
     rw[←hqs'] at hjq
     have HSS:=Lib.hid hqs'
     clear hPE hs hqs'
     obtain⟨la',lc',rfl⟩:=za8 hP.own
     have HP:=Hd2 hP hjq
     have hlk':qs'.length≤n:=Nat.le_trans (Nat.le_of_add_right_le hP.cnt) (nzc_le _ _)
     rcases Nat.lt_or_ge f 4 with hf4 | hf4
     ·have hix:=fun w=>ze2 G q f hf4 w
      unfold faceA at hix
      have hkk:4*q+f<4*G.n:=by have:=HNN.out.2;omega
      obtain⟨T,hT⟩:∃T,T=G.tet (4*q+f):=⟨_,rfl⟩
      rw[←hT] at hix
      have HTT:=Lib.hid hT
      rcases Int.lt_or_le T 0 with hT0 | hT0
      ·have q1:decide (0≤T)=false:=by simp;omega
       clear hP hT hjq
       go_wp2
       have hst:lp (bfF G q) (bf G j) (f+1)=s:=by
        show bfF G q f (lp (bfF G q) (bf G j) f)=s
        rw[←HS.out];unfold bfF;rw[if_pos (.inl (by rw[←HTT.out];exact hT0))]
       exact⟨⟨f+1,by omega,by simp,by rw[hst,←HSS.out];exact HP.out.2,by rw[hst];exact HPE.out.kept (World.grownBy_alloc _ _ _)⟩,by simp[intOf];omega⟩
      ·obtain⟨e1,e2,e3⟩:=zc6 HG.out.1 hkk (by omega)
       obtain⟨x,hx,hxT⟩:∃x:Nat,(T=(x:Int)∧x<n)∧x=G.T (4*q+f):=⟨G.T (4*q+f),⟨by rw[hT,e1],by have:=HNN.out.2;omega⟩,rfl⟩
       obtain⟨rfl,hxk⟩:=hx
       have hpf:=e3 f hf4
       obtain⟨P,hPf,hPP⟩:∃P:Nat,(G.pm (4*q+f) f=(P:Int)∧P<4)∧P=G.P (4*q+f) f:=⟨_,⟨hpf.1,hpf.2⟩,rfl⟩
       have hxP:4*x+P=tb G (4*q+f):=by unfold tb;rw[hxT,hPP,show (4*q+f) % 4=f by omega]
       have HXP:=Hd2 hxT hxP
       have q1:decide (0≤(x:Int))=true:=by simp
       have x0:0≤(x:Int):=by omega
       have xk:(x:Int)<(n:Int):=by omega
       have HPF:=Lib.hid hPf
       have hFA:∀j v,(zd3 (x:Int) (G.pm (4*q+f)))[j]?=some v→(wr.alloc (.cells (zd3 (x:Int) (G.pm (4*q+f))) 87)).cell? ⟨wr.heap.size,j,none⟩=some v:=fun j v hv=>(World.cell?_alloc_at _ _ _ _ rfl).trans hv
       have HFA:=Lib.hid hFA
       have hse:=hP.seen.cell (i:=x) hxk
       have sea:=za4 hse
       clear hT e1 e2 e3 hpf hPf hFA hxT hPP hxP hse
       cases hsx:s.h x with
       | true=>
        rw[hsx] at sea
        have HSX:=Lib.hid hsx
        clear hP hsx hjq
        go_wp2
        have hst:lp (bfF G q) (bf G j) (f+1)=s:=by
         show bfF G q f (lp (bfF G q) (bf G j) f)=s
         rw[←HS.out];unfold bfF;rw[if_pos (.inr (by rw[←HXP.out.1];exact HSX.out))]
        exact⟨⟨f+1,by omega,by simp,by rw[hst,←HSS.out];exact HP.out.2,by rw[hst];exact HPE.out.kept (World.grownBy_alloc _ _ _)⟩,by simp[intOf];omega⟩
       | false=>
        rw[hsx] at sea
        have HSX:=Lib.hid hsx
        have sfa:∀o,(wr.alloc o).frozen? ⟨N+1+1+1,x,none⟩=false:=fun o=>((World.grownBy_alloc wr o none).frozen_far ⟨N+1+1+1,x,none⟩ (hP.seen.lt) (by simp)).trans (hP.seen.frozen x)
        obtain⟨g',gc',hge,hqc,-,hg4,hgl⟩:=hP.qcell hjq
        obtain⟨rfl,-,rfl⟩:la'=some ⟨g',0,none⟩∧qs'.length=qs'.length∧lc'=gc':=by simpa using hge
        have hjl9:=(List.getElem?_eq_some_iff.1 HP.out.2).1
        have hjb:(j:Int)<(qs'.length:Int):=by omega
        have j0:0≤(j:Int):=by omega
        have fa0:=HFA.out 0 _ rfl
        have faf:=HFA.out (1+f) _ (zf8 _ _ f hf4)
        rw[HPF.out.1] at faf
        have HT1:=Lib.hid (fun W (h:GT w W N n (.slice (some ⟨b,off,none⟩) n cap) (.slice (some ⟨g',0,none⟩) qs'.length lc') qs' s.h s.tr 0)=>And.intro (h.tree.cell (i:=4*q+f) (by have:=HNN.out.2;omega)) (h.tree.frozen (4*q+f)))
        have HGL:=Hd2 hg4 hgl
        clear hP hsx hjq hge hg4 hgl
        unfold zd3 at fa0 faf
        obtain⟨WE,hWE⟩:∃WE,WE=wr.alloc (.cells #[.int .i64 (x:Int),.int .i64 (G.pm (4*q+f) 0),.int .i64 (G.pm (4*q+f) 1),.int .i64 (G.pm (4*q+f) 2),.int .i64 (G.pm (4*q+f) 3)] 87):=⟨_,rfl⟩
        have hgE:GT w WE N n (.slice (some ⟨b,off,none⟩) n cap) (.slice (some ⟨g',0,none⟩) qs'.length lc') qs' s.h s.tr 0:=by rw[hWE];exact HP.out.1.kept (World.grownBy_alloc _ _ _)
        have oth:∀c o y,c≠N+1+1+1→WE.cell? ⟨c,o,none⟩=some y→(WE.setCell ⟨N+1+1+1,x,none⟩ (.bool true)).cell? ⟨c,o,none⟩=some y:=fun c o y hc h=>(World.cell?_setCell_other (a:=⟨N+1+1+1,x,none⟩) (b:=⟨c,o,none⟩) _ _ (by intro e;cases e;exact hc rfl)).trans h
        rw[←hWE] at fa0 faf
        have qg:=oth g' j _ (by have:=HGL.out.1;omega) (by rw[hWE];exact za4 hqc _)
        have f0':=oth wr.heap.size 0 _ (by have:=HGL.out;omega) fa0
        have ff':=oth wr.heap.size (1+f) _ (by have:=HGL.out;omega) faf
        have tc:=oth (N+1+1) (q*4+f) _ (by omega) (by have:=(HT1.out WE hgE).1;rwa [show 4*q+f=q*4+f by omega] at this)
        have tf:(WE.setCell ⟨N+1+1+1,x,none⟩ (.bool true)).frozen? ⟨N+1+1,q*4+f,none⟩=false:=by rw[World.frozen?_setCell];have:=(HT1.out WE hgE).2;rwa [show 4*q+f=q*4+f by omega] at this
        rw[hWE] at qg f0' ff' tc tf
        have HWE:=Hd4 hWE hgE fa0 faf
        rw[hWE] at fa0 faf
        have q40:0≤(q:Int):=by omega
        have f0i:0≤(f:Int):=by omega
        have f4i:(f:Int)<4:=by omega
        clear oth hgE hWE hqc
        go_wp2
        refine zb3 fun W9 hW9=>?_
        rw[←HWE.out.1] at hW9
        clear qg f0' ff' tc tf fa0 faf sea sfa
        have h9:GT w W9 N n (.slice (some ⟨b,off,none⟩) n cap) (.slice (some ⟨g',0,none⟩) qs'.length lc') qs' (fun i=>i==x || s.h i) (fun k=>k==4*q+f || s.tr k) 1:=by
         have:=(HWE.out.2.1.see hxk HSX.out).mark (4*q+f)
         rw[hW9,show q*4+f=4*q+f by omega];exact this
        have oth:∀c o y,c≠N+1+1+1→c≠N+1+1→WE.cell? ⟨c,o,none⟩=some y→W9.cell? ⟨c,o,none⟩=some y:=fun c o y hc hc2 h=>by
         rw[hW9]
         exact (World.cell?_setCell_other (a:=⟨N+1+1,q*4+f,none⟩) (b:=⟨c,o,none⟩) _ _ (by intro e;cases e;exact hc2 rfl)).trans ((World.cell?_setCell_other (a:=⟨N+1+1+1,x,none⟩) (b:=⟨c,o,none⟩) _ _ (by intro e;cases e;exact hc rfl)).trans h)
        have fa0:=oth wr.heap.size 0 _ (by have:=HGL.out;omega) (by have:=HGL.out;omega) HWE.out.2.2.1
        have faf:=oth wr.heap.size (1+f) _ (by have:=HGL.out;omega) (by have:=HGL.out;omega) HWE.out.2.2.2
        have hPb:=HPF.out.2
        have tc:=h9.tree.cell (i:=4*x+P) (by omega)
        have tf:=h9.tree.frozen (4*x+P)
        rw[show 4*x+P=x*4+P by omega] at tc tf
        have P0:0≤(P:Int):=by omega
        have P4:(P:Int)<4:=by omega
        have H9:=Lib.hid h9
        have HW9s:=Lib.hid (show wr.heap.size≤W9.heap.size by rw[hW9,HWE.out.1];simp)
        obtain⟨EB,hEB⟩:∃EB,EB=wr.heap.size:=⟨_,rfl⟩
        rw[←hEB] at fa0 faf ⊢
        have HEB:=Lib.hid (show EB≠N+1+1 by have:=HGL.out;omega)
        have HE9:=Lib.hid (show N+4≤W9.heap.size by have:=HGL.out;have:=HW9s.out;omega)
        clear hW9 h9 oth hEB
        refine zc1 9 (by kernel_rfl) (by kernel_rfl) ?_
        repeat (refine wpStill_step (fun K hK=>?_);go_simp;refine hK _ ?_;clear hK K)
        refine wpStill_nil ?_
        obtain⟨VA,hVA⟩:∃VA,VA=(W9.setCell ⟨N+1+1,x*4+P,none⟩ (.bool true)).drew:=⟨_,rfl⟩
        have h10:GT w VA N n (.slice (some ⟨b,off,none⟩) n cap) (.slice (some ⟨g',0,none⟩) qs'.length lc') qs' (fun i=>i==x || s.h i) (fun k=>k==4*x+P || (k==4*q+f || s.tr k)) 1:=by
         have:=(H9.out.mark (4*x+P)).kept (zb0 _ none)
         rw[hVA,show x*4+P=4*x+P by omega];exact this
        have fb0:VA.cell? ⟨EB,0,none⟩=some (.int .i64 (x:Int)):=by
         rw[hVA]
         exact (World.cell?_setCell_other (a:=⟨N+1+1,x*4+P,none⟩) (b:=⟨EB,0,none⟩) _ _ (fun e=>HEB.out (congrArg Addr.block e).symm)).trans fa0
        have tcd:W9.drew.cell? ⟨N+1+1,x*4+P,none⟩=some (.bool _):=tc
        have tfd:W9.drew.frozen? ⟨N+1+1,x*4+P,none⟩=false:=tf
        obtain⟨j0',hj0',hz30,hz31,hz32⟩:=info_parts info3
        have H10:=Hd3 h10 hVA (h10.own.alloc (.cells #[.int .i64 (x:Int)] 3))
        rw[hVA] at fb0
        have fb1:(W9.setCell ⟨N+1+1,x*4+P,none⟩ (.bool true)).cell? ⟨EB,0,none⟩=some (.int .i64 (x:Int)):=fb0
        clear hVA h10 fa0 faf
        go_wp2_with (at_builtin;go_loud (refine (wpList_append_lies _ rfl (.tmp 86) (.tmp 89) 35 rfl (N+4) 3 j0' _ 1 8 und35 hj0' hz30 hz31 hz32 rfl (by omega) (.slice (some ⟨g',0,none⟩) qs'.length lc') qs'.length _ rfl (by have h:=H10.out.2.2;rw[H10.out.2.1] at h;exact h) ⟨W9.heap.size,0,none⟩ 1 1 [.int .i64 (x:Int)] rfl rfl (by have:=World.news_of_block (cs:=#[.int .i64 (x:Int)]) (MapKept.heap_alloc (W9.setCell ⟨N+1+1,x*4+P,none⟩ (.bool true)) (.cells #[.int .i64 (x:Int)] 3)).1;simp only[World.size_setCell] at this;exact this) (by simp[Value.oneCell']) (by omega) (by unfold maxLen;omega) (by omega) (by have:=HE9.out;simp;omega) (W9.heap.size+1) (by simp) ?_));intro g9 c9 w9 r1 r2 r3 r4;have HR:=Hd4 r1 r2 r3 r4;clear r1 r2 r3 r4)
        have hst:lp (bfF G q) (bf G j) (f+1)=⟨qs'++[x],fun y=>y==x || s.h y,fun k=>k==4*x+P || (k==4*q+f || s.tr k)⟩:=by
         show bfF G q f (lp (bfF G q) (bf G j) f)=_
         rw[←HS.out];unfold bfF
         rw[if_neg ?_,←HXP.out.1,←HXP.out.2,HSS.out]
         rintro (c | c)
         ·rw[←HTT.out] at c;omega
         ·rw[←HXP.out.1,HSX.out] at c;cases c
        have hG9:=H10.out.1.push (W2:=VA.alloc (.cells #[.int .i64 (x:Int)] 3)) hxk (World.grownBy_alloc _ _ _) HR.out.1 (by rw[H10.out.2.1];exact HR.out.2.1)
        refine⟨⟨f+1,by omega,by simp,?_,?_⟩,by simp[intOf];omega⟩
        ·rw[hst]
         show (qs'++[x])[j]?=some q
         rw[List.getElem?_append_left (List.getElem?_eq_some_iff.1 HP.out.2).1];exact HP.out.2
        ·rw[hst];exact hG9
     ·obtain rfl:f=4:=by omega
      clear hP hjq
      go_wp2
      have:=(List.getElem?_eq_some_iff.1 HP.out.2).1
      have hst:bf G (j+1)=s:=by rw[bf_succ (a:=q) (by rw[←HQS.out];exact H5q.out),HS.out]
      exact⟨⟨j+1,by rw[hst,←HSS.out];omega,by simp,by rw[hst];exact HPE.out⟩,by simp[intOf];omega⟩
   ·obtain rfl:j=qs.length:=by omega
    have htr:(bf G qs.length).tr=treeB G:=tree_fin (by rw[←HNN.out.2];exact hlk) (by rw[←HQS.out];exact Nat.le_refl _)
    have hL:GL w wr N n (.slice a n cap) (treeB G) (ltrK G 0):=⟨hP.tree.congr (fun k _=>by rw[htr]),hP.outz.congr (fun k _=>by rw[ltrK_zero]),hP.c0,hP.bel⟩
    have HL:=Lib.hid hL
    have c0:=hL.c0
    clear hP hL htr HP HPE
    go_wp2
    clear c0
    go_loopw [11,95] (fun m i wz=>∃t:Nat,t≤n∧i=.int .i64 t∧m=.int .i64 (gnN G (4*t):Nat)∧GL w wz N n (.slice a n cap) (treeB G) (ltrK G (4*t))) (fun _ i _=>n-(intOf i).toNat)
    case atStart=>exact⟨0,by omega,rfl,rfl,HL.out⟩
    case round=>
     clear HL
     obtain⟨t,ht,rfl,rfl,hL⟩:=hrel
     have HL:=Lib.hid hL
     rcases Nat.lt_or_ge t n with htn | htn
     ·obtain⟨_,b,off,_,hve,hga,hgc⟩:=HG.out.2
      simp only[Value.slice.injEq,true_and] at hve
      obtain⟨hva,hvc⟩:=hve
      obtain⟨hN2,hne2⟩:=HNN.out
      obtain⟨hab,hbB⟩:=hga (by omega)
      rw[hab] at hva
      subst hva
      have hrow:zb9 wr b (off+t*20) G t:=by
       have:=ze5 (W:=w) hgc t (by omega)
       intro jj hjj
       rw[←this jj hjj]
       exact hL.bel.cell (p:=⟨b,off+t*20+jj,none⟩) (by exact hbB)
      have hrg:=hrow.range
      have hrg2:(wr.alloc (.cells (rowA G t) 88)).rangeAt wr.heap.size 0 (rowA G t).toList:=by
       have:zb9 (wr.alloc (.cells (rowA G t) 88)) wr.heap.size 0 G t:=fun j hj=>by rw[Nat.zero_add];exact World.cell?_alloc_at _ _ _ _ rfl
       exact this.range
      have t0:0≤(t:Int):=by omega
      have tn:(t:Int)<(n:Int):=by omega
      clear hL hga hgc hvc hN2 hne2 hab hbB hrow
      go_wp2_with (first|(refine zb8 rfl 88 (.tmp 98) rfl b (off+t*20) rfl (rowA G t) _ hrg Try.underlying88 rfl (by kernel_rfl) ?_)|(refine zc2 (w:=wr) rfl 88 (.tmp 13) (.tmp 99) rfl _ (rowA G t) rfl rfl (by kernel_rfl) rfl (zf9 G t) ?_)|(refine zb8 rfl 88 (.tmp 13) rfl wr.heap.size 0 rfl (rowA G t) _ hrg2 Try.underlying88 rfl (by kernel_rfl) ?_))
      refine zb3 fun W1 hW=>?_
      have h1:GL w W1 N n (.slice (some ⟨b,off,none⟩) n cap) (treeB G) (ltrK G (4*t)):=by rw[hW];exact HL.out.kept (World.grownBy_alloc _ _ _)
      have H1:=Lib.hid h1
      clear h1 hW hrg hrg2 HL
      go_loopw [11,101] (fun m i wz=>∃f:Nat,f≤4∧i=.int .i64 f∧m=.int .i64 (gnN G (4*t+f):Nat)∧GL w wz N n (.slice (some ⟨b,off,none⟩) n cap) (treeB G) (ltrK G (4*t+f))) (fun _ i _=>4-(intOf i).toNat)
      case atStart=>exact⟨0,by omega,rfl,rfl,H1.out⟩
      case round=>
       clear H1
       obtain⟨f,hf,rfl,rfl,hL⟩:=hrel
       have HL:=Lib.hid hL
       rcases Nat.lt_or_ge f 4 with hf4 | hf4
       ·have hix:=fun w=>ze2 G t f hf4 w
        unfold faceA at hix
        have hkk:4*t+f<4*G.n:=by have:=HNN.out.2;omega
        have hgl:=gnN_le G (4*t+f)
        obtain⟨gn,hgn⟩:∃gn,gn=gnN G (4*t+f):=⟨_,rfl⟩
        rw[←hgn] at hgl ⊢
        have HGN:=Lib.hid hgn
        obtain⟨T,hT⟩:∃T,T=G.tet (4*t+f):=⟨_,rfl⟩
        rw[←hT] at hix
        have HTT:=Lib.hid hT
        have skip:genB G (4*t+f)=false→∀W,GL w W N n (.slice (some ⟨b,off,none⟩) n cap) (treeB G) (ltrK G (4*t+f))→gnN G (4*t+(f+1))=gn∧GL w W N n (.slice (some ⟨b,off,none⟩) n cap) (treeB G) (ltrK G (4*t+(f+1))):=fun hg W h=>
         ⟨by rw[HGN.out];show (if genB G (4*t+f)=true then _ else _)=_;rw[hg];rfl,h.congr (fun k _=>(ltrK_skip HG.out.1 hg k).symm)⟩
        have HSK:=Lib.hid skip
        clear hgn hT skip
        rcases Int.lt_or_le T 0 with hT0 | hT0
        ·have q1:decide (0≤T)=false:=by simp;omega
         clear hL
         go_wp2
         have hg:genB G (4*t+f)=false:=by
          cases hb:genB G (4*t+f) with
          | false=>rfl
          | true=>have:=(zd7.1 hb).1;rw[←HTT.out] at this;omega
         obtain⟨g1,g2⟩:=HSK.out hg _ (HL.out.kept (World.grownBy_alloc _ _ _))
         exact⟨⟨f+1,by omega,by simp,by rw[g1],g2⟩,by simp[intOf];omega⟩
        ·obtain⟨e1,e2,e3⟩:=zc6 HG.out.1 hkk (by rw[←HTT.out];omega)
         obtain⟨x,hx,hxT⟩:∃x:Nat,(T=(x:Int)∧x<n)∧x=G.T (4*t+f):=⟨G.T (4*t+f),⟨by rw[HTT.out,e1],by have:=HNN.out.2;omega⟩,rfl⟩
         obtain⟨rfl,hxk⟩:=hx
         have hpf:=e3 f hf4
         obtain⟨P,hPf,hPP⟩:∃P:Nat,(G.pm (4*t+f) f=(P:Int)∧P<4)∧P=G.P (4*t+f) f:=⟨_,⟨hpf.1,hpf.2⟩,rfl⟩
         have hxP:4*x+P=tb G (4*t+f):=by unfold tb;rw[hxT,hPP,show (4*t+f) % 4=f by omega]
         have HXP:=Lib.hid hxP
         have q1:decide (0≤(x:Int))=true:=by simp
         have x0:0≤(x:Int):=by omega
         have xk:(x:Int)<(n:Int):=by omega
         have HPF:=Lib.hid hPf
         have f0:0≤(f:Int):=by omega
         have f4:(f:Int)<4:=by omega
         have htc:=hL.tree.cell (i:=4*t+f) (by have:=HNN.out.2;omega)
         rw[show 4*t+f=t*4+f by omega] at htc
         have tca:=za4 htc
         have c0a:=za4 hL.c0
         obtain⟨tb1,htb⟩:∃b,b=treeB G (t*4+f):=⟨_,rfl⟩
         rw[←htb] at tca
         have HTB:=Lib.hid (show tb1=treeB G (4*t+f) by rw[htb,show t*4+f=4*t+f by omega])
         clear e1 e2 e3 hpf hPf hxT hPP hxP htc htb
         cases tb1 with
         | true=>
          clear hL c0a
          go_wp2
          have hg:genB G (4*t+f)=false:=by
           cases hb:genB G (4*t+f) with
           | false=>rfl
           | true=>have:=(zd7.1 hb).2.1;rw[←HTB.out] at this;cases this
          obtain⟨g1,g2⟩:=HSK.out hg _ (HL.out.kept (World.grownBy_alloc _ _ _))
          exact⟨⟨f+1,by omega,by simp,by rw[g1],g2⟩,by simp[intOf];omega⟩
         | false=>
          obtain⟨WE,hWE⟩:∃WE,WE=wr.alloc (.cells (zd3 (x:Int) (G.pm (4*t+f))) 87):=⟨_,rfl⟩
          have hLE:GL w WE N n (.slice (some ⟨b,off,none⟩) n cap) (treeB G) (ltrK G (4*t+f)):=by rw[hWE];exact hL.kept (World.grownBy_alloc _ _ _)
          have hNs:=hLE.bel.size
          have h54:=rfirst_walk HG.out.1 t f (by have:=HNN.out.2;omega) hf4 (.slice (some ⟨b,off,none⟩) n cap) WE (by have:=HG.out.2;rw[←HNN.out.2] at this;exact (this.below hLE.bel).mono (by have:=HNN.out.1;omega))
          have fe0:WE.cell? ⟨wr.heap.size,0,none⟩=some (.int .i64 (x:Int)):=by rw[hWE];exact (World.cell?_alloc_at _ _ _ _ rfl)
          have fef:WE.cell? ⟨wr.heap.size,1+f,none⟩=some (.int .i64 (P:Int)):=by rw[hWE,←HPF.out.1];exact (World.cell?_alloc_at _ _ _ _ rfl).trans (zf8 _ _ f hf4)
          have HE:=Hd3 hLE fe0 fef
          rw[hWE] at h54
          unfold zd3 at h54
          have HNr:=Lib.hid hL.bel.size
          by_cases hF:isF G (4*t+f)
          ·have qF:decide (isF G (4*t+f))=true:=by simpa using hF
           rw[qF] at h54
           have H54:=Lib.hid h54
           have hg:genB G (4*t+f)=true:=zd7.2 ⟨by rw[←HTT.out];omega,HTB.out.symm,hF⟩
           have HGB:=Lib.hid hg
           have w1:IntKind.i64.wrap ((gn:Int)+1)=(gn:Int)+1:=IntWalk.i64_in _ (by omega)
           have w2:IntKind.i64.wrap (-((gn:Int)+1))=-((gn:Int)+1):=IntWalk.i64_in _ (by omega)
           have hE1:wr.heap.size≠N+1:=by have h1:=hL.out.lt;omega
           have hfacts:∀w5,Below (wr.alloc (.cells #[.int .i64 (x:Int),.int .i64 (G.pm (4*t+f) 0),.int .i64 (G.pm (4*t+f) 1),.int .i64 (G.pm (4*t+f) 2),.int .i64 (G.pm (4*t+f) 3)] 87)).heap.size (wr.alloc (.cells #[.int .i64 (x:Int),.int .i64 (G.pm (4*t+f) 0),.int .i64 (G.pm (4*t+f) 1),.int .i64 (G.pm (4*t+f) 2),.int .i64 (G.pm (4*t+f) 3)] 87)) w5 →
             GL w w5 N n (.slice (some ⟨b,off,none⟩) n cap) (treeB G) (ltrK G (4*t+f))∧w5.cell? ⟨N+1,t*4+f,none⟩=some (.int .i64 (ltrK G (4*t+f) (t*4+f)))∧w5.frozen? ⟨N+1,t*4+f,none⟩=false ∧
             (w5.setCell ⟨N+1,t*4+f,none⟩ (.int .i64 ((gn:Int)+1))).cell? ⟨wr.heap.size,0,none⟩=some (.int .i64 (x:Int))∧(w5.setCell ⟨N+1,t*4+f,none⟩ (.int .i64 ((gn:Int)+1))).cell? ⟨wr.heap.size,1+f,none⟩=some (.int .i64 (P:Int)) ∧
             (∃y,(w5.setCell ⟨N+1,t*4+f,none⟩ (.int .i64 ((gn:Int)+1))).cell? ⟨N+1,x*4+P,none⟩=some (.int .i64 y))∧(w5.setCell ⟨N+1,t*4+f,none⟩ (.int .i64 ((gn:Int)+1))).frozen? ⟨N+1,x*4+P,none⟩=false:=fun w5 hb0=>by
            have hb:Below WE.heap.size WE w5:=by rw[hWE];exact hb0
            have h5:=hLE.kept (za6 hb (Nat.le_refl _) none)
            have hg:=za6 hb (Nat.le_refl _) none
            have a0:=hg.cell fe0 (by simp)
            have a1:=hg.cell fef (by simp)
            have h6:=h5.put (t*4+f) ((gn:Int)+1)
            exact⟨h5,h5.out.cell (i:=t*4+f) (by have:=HNN.out.2;omega),h5.out.frozen (t*4+f),
             (World.cell?_setCell_other (a:=⟨N+1,t*4+f,none⟩) (b:=⟨wr.heap.size,0,none⟩) w5 (.int .i64 ((gn:Int)+1)) (fun e=>hE1 (congrArg Addr.block e).symm)).trans a0,
             (World.cell?_setCell_other (a:=⟨N+1,t*4+f,none⟩) (b:=⟨wr.heap.size,1+f,none⟩) w5 (.int .i64 ((gn:Int)+1)) (fun e=>hE1 (congrArg Addr.block e).symm)).trans a1,
             ⟨_,h6.out.cell (i:=x*4+P) (by have:=HPF.out.2;omega)⟩,h6.out.frozen (x*4+P)⟩
           have HFX:=Lib.hid hfacts
           have P0:0≤(P:Int):=by omega
           have P4:(P:Int)<4:=by have:=HPF.out.2;omega
           clear hL hLE fe0 fef h54 qF hF hg hfacts hWE hE1
           go_wp2_with ((go_at_call 54;(with_reducible refine H54.out.mono ?_);rintro e w5 ⟨rfl,hb5⟩;obtain⟨b0,b1,b2,b4,b5,⟨y6,b6⟩,b7⟩:=HFX.out w5 hb5;have H5:=Lib.hid b0;clear b0 hb5))
           refine zc1 11 (by kernel_rfl) (by kernel_rfl) ?_
           repeat (refine wpStill_step (fun K hK=>?_);go_simp;refine hK _ ?_;clear hK K)
           refine wpStill_nil ?_
           go_wp2
           have hgs:gnN G (4*t+(f+1))=gn+1:=by
            rw[HGN.out];show (if genB G (4*t+f)=true then _ else _)=_;rw[HGB.out];rfl
           refine⟨⟨f+1,by omega,by simp,by rw[hgs];simp,?_⟩,by simp[intOf];omega⟩
           refine (((H5.out.put (t*4+f) ((gn:Int)+1)).put (x*4+P) (-((gn:Int)+1))).kept (zb0 _ none)).congr (fun k hk=>?_)
           rw[show 4*t+(f+1)=4*t+f+1 by omega,ltrK_put HG.out.1 hkk HGB.out (by have:=HNN.out.2;omega),←HXP.out,←HGN.out,show x*4+P=4*x+P by omega,show t*4+f=4*t+f by omega]
          ·have qF:decide (isF G (4*t+f))=false:=by simpa using hF
           rw[qF] at h54
           have H54:=Lib.hid h54
           have hg:genB G (4*t+f)=false:=by
            cases hb:genB G (4*t+f) with
            | false=>rfl
            | true=>exact absurd (zd7.1 hb).2.2 hF
           have HWE:=Lib.hid hWE
           clear hL hLE fe0 fef h54 qF hF hWE
           go_wp2_with ((go_at_call 54;(with_reducible refine H54.out.mono ?_);rintro e w5 ⟨rfl,hb5⟩;have H5:=Lib.hid hb5;clear hb5))
           obtain⟨g1,g2⟩:=HSK.out hg w5 (by have h:=HE.out.1;rw[HWE.out] at h;exact h.kept (za6 H5.out (Nat.le_refl _) none))
           exact⟨⟨f+1,by omega,by simp,by rw[g1],g2⟩,by simp[intOf];omega⟩
       ·obtain rfl:f=4:=by omega
        clear hL
        go_wp2
        exact⟨⟨t+1,by omega,by simp,by rw[show 4*(t+1)=4*t+4 by omega],by rw[show 4*(t+1)=4*t+4 by omega];exact HL.out⟩,by simp[intOf];omega⟩
     ·obtain rfl:t=n:=by omega
      clear hL
      go_wp2
      go_ret2
      refine⟨N+1,rfl,?_,by omega,HL.out.bel⟩
      exact HL.out.out.congr (fun k hk=>by rw[HNN.out.2,ltrK_all HG.out.1 (by rw[←HNN.out.2];exact hk)])
end
end Go.Proofs.Ytlckpgahijlmoaa
