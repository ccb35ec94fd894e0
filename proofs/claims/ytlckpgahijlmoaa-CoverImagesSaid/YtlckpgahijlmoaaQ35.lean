/- cover's deck: it answers, and turns nothing. -/
import Derived.Test.YtlckpgahijlmoaaQ34
import Derived.Test.YtlckpgahijlmoaaQ21
import Derived.Test.YtlckpgahijlmoaaQ20
import Derived.Test.YtlckpgahijlmoaaQ10
import Derived.Test.YtlckpgahijlmoaaQ25
import Derived.Test.YtlckpgahijlmoaaQ18
import Derived.Test.YtlckpgahijlmoaaQ26
import Derived.Test.YtlckpgahijlmoaaQ32
set_option maxRecDepth 100000
set_option maxHeartbeats 8000000
namespace Go.Proofs.Ytlckpgahijlmoaa
section
open Go.RowKit Go.Shelf
structure PQR (w W:World)(N d n:Nat)(v qv:Value)(qs:List Nat)(h:Nat→Int):Prop where
 own:W.ownsRow (d+1) 3 1 qv qs.length (qs.map fun (q:Nat)=>Value.int .i64 (q:Int))
 row:zb7 W d n h
 sv:∀j,j<n→-1≤h j
 qlt:∀q∈qs,q<n
 cnt:qs.length≤nzc (fun j=>h j+1) n
 c0:W.cell? ⟨N,0,none⟩=some v
 lt:N<d
 bel:Below N w W
theorem PQR.kept {w W W':World}{N d n:Nat}{v qv:Value}{qs:List Nat}{h:Nat→Int}(hq:PQR w W N d n v qv qs h)(hg:W.grownBy W' none):PQR w W' N d n v qv qs h:=
 ⟨hq.own.kept hg (by cases qv.ownBlock<;>simp),za3 hq.row hg (by simp),hq.sv,hq.qlt,hq.cnt,hg.cell hq.c0 (by simp),hq.lt,hq.bel.grown hg (by have:=za0 hq.c0;simp only at this;omega) (fun k e=>by cases e)⟩
theorem PQR.qcell {w W:World}{N d n:Nat}{v qv:Value}{qs:List Nat}{h:Nat→Int}(hq:PQR w W N d n v qv qs h){k:Nat}(hk:k<qs.length):∃g cap,qv=.slice (some ⟨g,0,none⟩) qs.length cap∧W.cell? ⟨g,k,none⟩=some (.int .i64 ((qs[k]:Nat):Int))∧qs[k]<n:=by
 obtain⟨g,cap,hv,_⟩:=hq.own.form (by omega)
 refine⟨g,cap,hv,?_,hq.qlt _ (List.getElem_mem hk)⟩
 have:=hq.own.cells (g:=g) (by rw[hv];rfl) k (.int .i64 (qs[k]:Nat)) (by simp[hk])
 rwa [Addr.add_mid,Nat.zero_add] at this
theorem PQR.push {w W W2 w1:World}{N d n g cap:Nat}{v qv:Value}{qs:List Nat}{h:Nat→Int}(hq:PQR w W N d n v qv qs h){j:Nat}(hj:j<n)(h0:h j<0){x:Int}(hx:0≤x)(hg:(W.setCell ⟨d,j,none⟩ (.int .i64 x)).grownBy W2 none)
  (a1:w1.ownsRow (d+1) 3 1 (.slice (some ⟨g,0,none⟩) (qs.length+1) cap) (qs.length+1) ((qs.map fun (q:Nat)=>Value.int .i64 (q:Int))++[.int .i64 (j:Int)])) (a2:W2.grownBy w1 qv.ownBlock) :
  PQR w w1 N d n v (.slice (some ⟨g,0,none⟩) (qs.length+1) cap) (qs++[j]) (fun i=>if i=j then x else h i):=by
 have hlo:∀b,qv.ownBlock=some b→d+1≤b:=fun b e=>(hq.own.lt b e).1
 have hNd:=hq.lt
 have n1:some d≠qv.ownBlock:=fun e=>by have:=hlo _ e.symm;omega
 have n0:some N≠qv.ownBlock:=fun e=>by have:=hlo _ e.symm;omega
 have hs:=za1 W d j (.int .i64 x)
 have h1:(W.setCell ⟨d,j,none⟩ (.int .i64 x)).rowIs d 3 n (fun i=>.int .i64 (if i=j then x else h i)):=(hq.row.set j _).congr (fun i _=>by by_cases e:i=j<;>simp[e])
 have hm1:h j=-1:=by have:=hq.sv j hj;omega
 refine⟨by simpa using a1,za3 (za3 h1 hg (by simp)) a2 n1,fun i hi=>?_,fun q hm=>?_,?_,a2.cell (hg.cell (hs.cell hq.c0 (by simp;omega)) (by simp)) n0,hq.lt,?_⟩
 ·by_cases e:i=j
  ·simp only[e,if_true];omega
  ·simp only[e,if_false];exact hq.sv i hi
 ·rcases List.mem_append.1 hm with q1 | q1
  ·exact hq.qlt q q1
  ·simp at q1;omega
 ·have e:(fun i=>(if i=j then x else h i)+1)=fun i=>if i=j then x+1 else h i+1:=by
   funext i;split<;>rfl
  rw[e,nzc_set (s:=fun i=>h i+1) hj (by omega) (by omega)]
  have:=hq.cnt
  simp;omega
 ·have hN:=za0 hq.c0
  simp only at hN
  have hz:=hg.size
  simp at hz
  exact ((hq.bel.setCell (by show N≤d;omega) _).grown hg (by simp;omega) (fun k e=>by cases e)).grown a2 (by omega) (fun k e=>by have:=hlo k e;omega)
structure PInv (G:Gl)(A:Nat→Nat→(Nat→Int)→Prop)(B:Nat→Nat→List Nat→(Nat→Int)→Nat→Prop)(C:Nat→Nat→List Nat→(Nat→Int)→Nat→Nat→Nat→Prop):Prop where
 start:A 0 0 (fun _=>-1)
 met:∀t p h,t<G.n→A t p h→0≤h t→A (t+1) p h
 new:∀t p h,t<G.n→A t p h→h t<0→B t p [t] (fun i=>if i=t then (p:Int) else h i) 0
 row:∀t p qs h j,(hj:j<qs.length)→B t p qs h j→C t p qs h j qs[j] 0
 skip:∀t p qs h j q f,q<G.n→f<4→C t p qs h j q f→(G.tet (4*q+f)<0∨∃x:Nat,G.tet (4*q+f)=x∧x<G.n∧0≤h x)→C t p qs h j q (f+1)
 push:∀t p qs h j q f (x:Nat),q<G.n→f<4→C t p qs h j q f→G.tet (4*q+f)=x→x<G.n→h x<0→C t p (qs++[x]) (fun i=>if i=x then (p:Int) else h i) j q (f+1)
 next:∀t p qs h j q,C t p qs h j q 4→B t p qs h (j+1)
 done:∀t p qs h,t<G.n→B t p qs h qs.length→A (t+1) (p+1) h
theorem rparts_walk (G:Gl)(hok:za9 G=true){A:Nat→Nat→(Nat→Int)→Prop}{B:Nat→Nat→List Nat→(Nat→Int)→Nat→Prop}{C:Nat→Nat→List Nat→(Nat→Int)→Nat→Nat→Nat→Prop}(hI:PInv G A B C)(v:Value)(w:World)(hG:GlAt w.heap.size w v G) :
  Calls Try.prog 16 #[.agg #[v]] w fun e w'=>∃d p h,e=.returned (.tuple #[.slice (some ⟨d,0,none⟩) G.n G.n,.int .i64 0])∧zb7 w' d G.n h∧A G.n p h∧w.heap.size≤d∧Below w.heap.size w w':=by
 have hn:G.n≤1000:=by simp only[za9,Bool.and_eq_true,decide_eq_true_eq] at hok;exact hok.1
 have hmk:=run_make_row' (P:=Try.prog) 35 3 (.int .i64 0) 8 und35 info3 rfl .i64 .i64 G.n (by omega) (by omega)
 have e0:zd6 G=0:=by rw[zd6,hok];rfl
 have HG:=Hd2 hok hG
 have HI:=Lib.hid hI
 obtain⟨a,cap,rfl⟩:∃a cap,v=.slice a G.n cap:=by obtain⟨a,_,_,cap,e,_⟩:=hG;exact⟨a,cap,e⟩
 clear hok hG hI
 have h24:=fun W (hb:Below w.heap.size w W)=>checkRI_walk G W (.slice a G.n cap) ((HG.out.2.below hb).mono hb.size) (by omega)
 rw[e0] at h24
 have H24:=Lib.hid h24
 clear h24 e0
 obtain⟨N,hN⟩:∃N,N=w.heap.size:=⟨_,rfl⟩
 obtain⟨n,hne⟩:∃n,n=G.n:=⟨_,rfl⟩
 rw[←hne] at hn hmk ⊢
 have HNN:=Hd2 hN hne
 clear hne
 go_enter Try.func16,Try.ntmps16
 go_wp2_with fail
 refine zb4 fun W0 hW=>?_
 have h0:Below N w W0∧W0.cell? ⟨N,0,none⟩=some (.slice a n cap):=by rw[hW,hN];exact⟨by (repeat' (first | assumption | exact Below.refl _ _ | refine za7 ?_ (by assumption) | refine zb2 ?_ _ | refine za5 ?_ | refine zb1 ?_ (by simp<;>omega) _)),by simp[go_sem]⟩
 clear hW
 rw[←hN]
 rw[←hN] at H24
 clear hN
 obtain⟨hb,c0⟩:=h0
 have h240:=H24.out _ hb
 rw[←HNN.out.2] at h240
 refine h240.mono ?_
 rintro e W1 ⟨rfl,hb1⟩
 have hN0:N<W0.heap.size:=za0 c0
 have c1:=(hb1.cell (p:=⟨N,0,none⟩) (za0 c0)).trans c0
 have HB:=Hd2 (hb.trans (hb1.mono (by omega))) (show N<W1.heap.size by have:=hb1.size;omega)
 clear hb hb1 c0 h240 hN0
 go_wp2
 refine zb3 fun W2 hW=>?_
 obtain⟨d,hd⟩:∃d,d=W1.heap.size:=⟨_,rfl⟩
 rw[←hd]
 have h2:zb7 W2 d n (fun i=>if i<0 then -1 else 0)∧W2.cell? ⟨N,0,none⟩=some (.slice a n cap)∧Below N w W2:=by
  have:=World.rowIs_made W1 (.int .i64 0) n 3
  rw[hW,hd]
  exact⟨this.congr (fun i _=>by simp),za4 c1 _,HB.out.1.alloc (by have:=HB.out.2;omega) _⟩
 have hNd:N<d:=by have:=HB.out.2;omega
 have H1:=Lib.hid h2
 clear h2 hW hmk hd c1
 go_loopw [5] (fun i wr=>∃k:Nat,k≤n∧i=.int .i64 k∧zb7 wr d n (fun i=>if i<k then -1 else 0)∧wr.cell? ⟨N,0,none⟩=some (.slice a n cap)∧Below N w wr) (fun i _=>n-(intOf i).toNat)
 case atStart=>exact⟨0,by omega,rfl,H1.out⟩
 case round=>
  clear H1
  obtain⟨k,hk,rfl,hr,hc,hb⟩:=hrel
  have HK:=Hd3 hr hc hb
  rcases Nat.lt_or_ge k n with hkn | hkn
  ·have ck:=hr.cell hkn
   have fk:=hr.frozen k
   clear hr hb
   go_wp2
   refine⟨⟨k+1,by omega,by simp,(HK.out.1.set k _).congr (fun i _=>?_),(za1 wr d k _).cell HK.out.2.1 (by simp;omega),HK.out.2.2.setCell (by show N≤d;omega) _⟩,by simp[intOf];omega⟩
   by_cases e:i=k
   ·simp[e]
   ·have:i<k+1↔i<k:=by omega
    simp[e,this]
  ·obtain rfl:k=n:=by omega
   have H2:=Lib.hid (show zb7 wr d k (fun _=>-1)∧wr.cell? ⟨N,0,none⟩=some (.slice a k cap)∧Below N w wr from⟨hr.congr (fun i hi=>by simp[hi]),hc,hb⟩)
   clear hr hc hb HK
   go_wp2
   clear hk hkn
   go_loopw [6,7] (fun pv i wr=>∃(t p:Nat) (h:Nat→Int),t≤k∧p≤t∧i=.int .i64 t∧pv=.int .i64 p∧A t p h∧zb7 wr d k h∧(∀j,j<k→-1≤h j)∧wr.cell? ⟨N,0,none⟩=some (.slice a k cap)∧Below N w wr) (fun _ i _=>k-(intOf i).toNat)
   case atStart=>exact⟨0,0,fun _=>-1,by omega,by omega,rfl,rfl,HI.out.start,H2.out.1,fun _ _=>Int.le_refl _,H2.out.2⟩
   case round=>
    clear H2
    obtain⟨t,p,h,ht,hpt,rfl,rfl,hA,hr,hsv,hc,hb⟩:=hrel
    have HK:=Hd5 hr hsv hc hb hA
    rcases Nat.lt_or_ge t k with htk | htk
    ·have ct:=hr.cell htk
     have ft:=hr.frozen t
     have hst:=hsv t htk
     clear hr hsv hb hA
     obtain⟨z,hz⟩:∃z,z=h t:=⟨_,rfl⟩
     rw[←hz] at ct hst
     have HZ:=Lib.hid hz
     clear hz
     have t0:0≤(t:Int):=by omega
     have tk:(t:Int)<(k:Int):=by omega
     rcases Int.lt_or_le z 0 with hz0 | hz0
     ·have q1:decide (0≤z)=false:=by simp;omega
      have cta:=za4 ct
      have fta:∀o,(wr.alloc o).frozen? ⟨d,t,none⟩=false:=fun o=>((World.grownBy_alloc wr o none).frozen_far ⟨d,t,none⟩ HK.out.1.lt (by simp)).trans ft
      go_wp2
      obtain⟨D,hD⟩:∃D,D=wr.heap.size:=⟨_,rfl⟩
      rw[←hD]
      refine zb3 fun W5 hW5=>?_
      have hQ:PQR w W5 N d k (.slice a k cap) (.slice (some ⟨D,0,none⟩) 1 1) [t] (fun i=>if i=t then (p:Int) else h i):=by
       obtain⟨hr,hsv,hc,hb,-⟩:=HK.out
       have hlt:=hr.lt
       have hNs:=za0 hc
       simp only at hNs
       have hal:=World.grownBy_alloc wr (.cells #[.int .i64 (t:Int)] 3) none
       have hs:=za1 (wr.alloc (.cells #[.int .i64 (t:Int)] 3)) d t (.int .i64 (p:Int))
       have hown:=World.ownsRow_lit (base:=d+1) (e:=3) (size:=1) wr #[.int .i64 (t:Int)] 1 (by omega) (by decide) rfl
       rw[←hD] at hown
       have hown2:=hown.kept hs (.inr (by simp[Value.ownBlock];omega))
       rw[←hW5] at hs hown2
       have hr1:zb7 (wr.alloc (.cells #[.int .i64 (t:Int)] 3)) d k h:=za3 hr hal (by simp)
       refine⟨hown2,by rw[hW5];exact (hr1.set t _).congr (fun i _=>by by_cases e:i=t<;>simp[e]),fun j hj=>?_,fun q hq=>?_,?_,hs.cell (hal.cell hc (by simp)) (by simp;omega),hNd,?_⟩
       ·by_cases e:j=t
        ·simp only[e,if_true];omega
        ·simp only[e,if_false];exact hsv j hj
       ·simp at hq;omega
       ·have e:(fun i=>(if i=t then (p:Int) else h i)+1)=fun i=>if i=t then (p:Int)+1 else h i+1:=by
         funext i;split<;>rfl
        have:=hsv t htk
        have:=HZ.out
        rw[e,nzc_set (s:=fun i=>h i+1) htk (by omega) (by omega)]
        simp
       ·rw[hW5];exact (hb.alloc (by omega) _).setCell (by show N≤d;omega) _
      have hB:=HI.out.new t p h (by have:=HNN.out.2;omega) HK.out.2.2.2.2 (by rw[←HZ.out];exact hz0)
      have HQ:=Hd2 hQ hB
      clear hQ hB hW5 hD hc ct ft cta fta
      go_loopw [8,9] (fun lv i wr=>∃(qs:List Nat) (h:Nat→Int) (j:Nat),j≤qs.length∧i=.int .i64 j∧PQR w wr N d k (.slice a k cap) lv qs h∧B t p qs h j) (fun _ i _=>k-(intOf i).toNat)
      case atStart=>exact⟨_,_,0,by omega,rfl,HQ.out⟩
      case round=>
       clear HQ
       obtain⟨qs,h2,j,hj,rfl,hP,hB⟩:=hrel
       obtain⟨la,lc,rfl⟩:=za8 hP.own
       have HP:=Hd2 hP hB
       have hlk:qs.length≤k:=Nat.le_trans hP.cnt (nzc_le _ _)
       rcases Nat.lt_or_ge j qs.length with hjl | hjl
       ·obtain⟨q,hq⟩:∃q,q=qs[j]:=⟨_,rfl⟩
        have hqk:q<k:=by rw[hq];exact hP.qlt _ (List.getElem_mem hjl)
        have hC:=HI.out.row t p qs h2 j hjl hB
        rw[←hq] at hC
        have H5:=Hd3 (show qs[j]?=some q by rw[hq];exact List.getElem?_eq_getElem hjl) hP hC
        clear hP hB hC hq
        go_wp2
        go_loopw [8,10] (fun lv i wr=>∃(qs:List Nat) (h:Nat→Int) (f:Nat),f≤4∧i=.int .i64 f∧qs[j]?=some q∧PQR w wr N d k (.slice a k cap) lv qs h∧C t p qs h j q f) (fun _ i _=>4-(intOf i).toNat)
        case atStart=>exact⟨qs,h2,0,by omega,rfl,H5.out⟩
        case round=>
         clear H5
         obtain⟨qs',h3,f,hf,rfl,hjq,hP,hC⟩:=hrel
         obtain⟨la',lc',rfl⟩:=za8 hP.own
         have HP:=Hd2 hP hC
         have hlk':qs'.length≤k:=Nat.le_trans hP.cnt (nzc_le _ _)
         obtain⟨hjl',hqe⟩:=List.getElem?_eq_some_iff.1 hjq
         rcases Nat.lt_or_ge f 4 with hf4 | hf4
         ·obtain⟨g,gc,hge,hqc,-⟩:=hP.qcell hjl'
          rw[hqe] at hqc
          obtain⟨rfl,-,rfl⟩:la'=some ⟨g,0,none⟩∧qs'.length=qs'.length∧lc'=gc:=by simpa using hge
          obtain⟨_,b,off,_,hve,hga,hgc⟩:=HG.out.2
          obtain⟨hN2,hne2⟩:=HNN.out
          obtain⟨hva,hvc⟩:a=_∧cap=_:=by simpa using hve
          obtain⟨hab,hbB⟩:=hga (by omega)
          rw[hab] at hva
          subst hva
          have hkk:4*q+f<4*G.n:=by omega
          obtain⟨T,hT⟩:∃T,T=G.tet (4*q+f):=⟨_,rfl⟩
          have ce:wr.drew.cell? ⟨b,off+q*20+f*5,none⟩=some (.int .i64 T):=by
           have:=(hgc (4*q+f) hkk).1
           rw[show off+5*(4*q+f)=off+q*20+f*5 by omega,←hT] at this
           exact (hP.bel.cell (p:=⟨b,off+q*20+f*5,none⟩) (by rw[hN2];exact hbB)).trans this
          have c0:wr.drew.cell? ⟨N,0,none⟩=some (.slice (some ⟨b,off,none⟩) k cap):=hP.c0
          replace hqc:wr.drew.cell? ⟨g,j,none⟩=some (.int .i64 (q:Int)):=hqc
          have j0:0≤(j:Int):=by omega
          have jl:(j:Int)<(qs'.length:Int):=by omega
          have q0:0≤(q:Int):=by omega
          have qk:(q:Int)<(k:Int):=by omega
          have f0:0≤(f:Int):=by omega
          have f4:(f:Int)<4:=by omega
          have HK2:=Hd3 hjq hT (show k=G.n from hne2)
          clear hve hga hgc hvc hN2 hne2 hab hbB hge hC hqe hjq hf
          rcases Int.lt_or_le T 0 with hT0 | hT0
          ·have q2:decide (0≤T)=false:=by simp;omega
           clear hP hT
           go_wp2
           refine wp_region_still_lit (by kernel_rfl) (by kernel_rfl) ?_
           repeat (refine wpStill_step (fun K hK=>?_);go_simp;refine hK _ ?_;clear hK K)
           refine wpStill_nil ?_
           go_wp2
           exact⟨⟨qs',h3,f+1,by omega,by simp,HK2.out.1,HP.out.1.kept (zb0 _ none),HI.out.skip t p qs' h3 j q f (by have:=HK2.out.2.2;omega) hf4 HP.out.2 (.inl (by rw[←HK2.out.2.1];exact hT0))⟩,by simp[intOf];omega⟩
          ·obtain⟨e1,e2,_⟩:=zc6 HG.out.1 hkk (by omega)
           obtain⟨x,hx⟩:∃x:Nat,T=(x:Int)∧x<k:=⟨G.T (4*q+f),by rw[hT,e1],by have:=HK2.out.2.2;omega⟩
           obtain⟨rfl,hxk⟩:=hx
           have hrc:wr.drew.cell? ⟨d,x,none⟩=some (.int .i64 (h3 x)):=hP.row.cell hxk
           have hrf:wr.drew.frozen? ⟨d,x,none⟩=false:=hP.row.frozen x
           obtain⟨y,hy⟩:∃y,y=h3 x:=⟨_,rfl⟩
           rw[←hy] at hrc
           have HY:=Lib.hid hy
           have q1:decide (0≤(x:Int))=true:=by simp
           have x0:0≤(x:Int):=by omega
           have xk:(x:Int)<(k:Int):=by omega
           clear hP hT e1 e2 hy
           rcases Int.lt_or_le y 0 with hy0 | hy0
           ·have q2:decide (y<0)=true:=by simpa using hy0
            have HPd:=Lib.hid (HP.out.1.kept (zb0 wr none))
            have HCC:=Lib.hid (HI.out.push t p qs' h3 j q f x (by have:=HK2.out.2.2;omega) hf4 HP.out.2 HK2.out.2.1.symm (by have:=HK2.out.2.2;omega) (by rw[←HY.out];exact hy0))
            have HJ:=Lib.hid (show (qs'++[x])[j]?=some q by rw[List.getElem?_append_left hjl'];exact HK2.out.1)
            go_wp2
            refine wp_region_still_lit (by kernel_rfl) (by kernel_rfl) ?_
            repeat (refine wpStill_step (fun K hK=>?_);go_simp;refine hK _ ?_;clear hK K)
            refine wpStill_nil ?_
            change Exit.then _ _ _ _ wr.drew
            obtain⟨wd,hwd⟩:∃wd,wd=wr.drew:=⟨_,rfl⟩
            rw[←hwd] at HPd hrc hrf ⊢
            clear hwd ce c0 hqc
            obtain⟨j0',hj0,hz30,hz31,hz32⟩:=info_parts info3
            have hne:(Value.slice (some ⟨g,0,none⟩) qs'.length lc').ownBlock=none∨(Value.slice (some ⟨g,0,none⟩) qs'.length lc').ownBlock≠some d:=.inr (fun e=>by have:=(HPd.out.own.lt _ e).1;omega)
            have hown:=((HPd.out.own.kept (za1 wd d x (.int .i64 (p:Int))) hne)).alloc (.cells #[.int .i64 (x:Int)] 3)
            have hnews:=World.news_of_block (cs:=#[.int .i64 (x:Int)]) (MapKept.heap_alloc (wd.setCell ⟨d,x,none⟩ (.int .i64 (p:Int))) (.cells #[.int .i64 (x:Int)] 3)).1
            simp only[World.size_setCell] at hnews
            have hltd:=HPd.out.row.lt
            have HA:=Hd3 True.intro hown hnews
            clear hown hnews hne
            go_wp2_with (at_builtin;refine (wpList_append_lies _ rfl (.tmp 79) (.tmp 81) 35 rfl (d+1) 3 j0' _ 1 8 und35 hj0 hz30 hz31 hz32 rfl (by omega) (.slice (some ⟨g,0,none⟩) qs'.length lc') qs'.length _ rfl HA.out.2.1 ⟨wd.heap.size,0,none⟩ 1 1 [.int .i64 (x:Int)] rfl rfl HA.out.2.2 (by simp[Value.oneCell']) (by omega) (by unfold maxLen;omega) (by omega) (by simp;omega) (wd.heap.size+1) (by simp) ?_);intro g9 c9 w9 r1 r2 r3 r4;have HR:=Hd2 r1 r2;clear r1 r2 r3 r4)
            exact⟨⟨qs'++[x],_,f+1,by omega,by simp,HJ.out,HPd.out.push hxk (by rw[←HY.out];exact hy0) (by omega:(0:Int)≤(p:Int)) (World.grownBy_alloc _ _ _) HR.out.1 HR.out.2,HCC.out⟩,by simp[intOf];omega⟩
           ·have q2:decide (y<0)=false:=by simp;omega
            go_wp2
            refine wp_region_still_lit (by kernel_rfl) (by kernel_rfl) ?_
            repeat (refine wpStill_step (fun K hK=>?_);go_simp;refine hK _ ?_;clear hK K)
            refine wpStill_nil ?_
            go_wp2
            exact⟨⟨qs',h3,f+1,by omega,by simp,HK2.out.1,HP.out.1.kept (zb0 _ none),HI.out.skip t p qs' h3 j q f (by have:=HK2.out.2.2;omega) hf4 HP.out.2 (.inr ⟨x,HK2.out.2.1.symm,by have:=HK2.out.2.2;omega,by rw[←HY.out];exact hy0⟩)⟩,by simp[intOf];omega⟩
         ·obtain rfl:f=4:=by omega
          clear hP hC hf
          go_wp2
          exact⟨⟨qs',h3,j+1,by omega,by simp,HP.out.1,HI.out.next t p qs' h3 j q HP.out.2⟩,by simp[intOf];omega⟩
       ·obtain rfl:j=qs.length:=by omega
        clear hP hB
        go_wp2
        exact⟨⟨t+1,p+1,_,by omega,by omega,by simp,by simp,HI.out.done t p qs h2 (by have:=HNN.out.2;omega) HP.out.2,HP.out.1.row,HP.out.1.sv,HP.out.1.c0,HP.out.1.bel⟩,by simp[intOf];omega⟩
     ·have q1:decide (0≤z)=true:=by simp;omega
      go_wp2
      exact⟨⟨t+1,p,h,by omega,by omega,by simp,rfl,HI.out.met t p h (by have:=HNN.out.2;omega) HK.out.2.2.2.2 (by rw[←HZ.out];exact hz0),HK.out.1,HK.out.2.1,HK.out.2.2.1,HK.out.2.2.2.1⟩,by simp[intOf];omega⟩
    ·obtain rfl:t=k:=by omega
     clear hr hsv hc hb hA
     go_wp2
     go_ret2
     exact⟨d,p,h,rfl,HK.out.1,HK.out.2.2.2.2,by have:=HNN.out.1;omega,by rw[←HNN.out.1];exact HK.out.2.2.2.1⟩
end
section
structure SQ (G:Gl)(t:Nat)(qs:List Nat)(j:Nat):Prop where
 root:ptR G t=t
 lt:t<G.n
 mem:t∈qs
 of:∀x∈qs,x<G.n∧ptR G x=t
 clo:∀i q,i<j→qs[i]?=some q→∀f,f<4→¬G.tet (4*q+f)<0→G.T (4*q+f)∈qs
structure SF (G:Gl)(t:Nat)(qs:List Nat)(j q f:Nat):Prop extends SQ G t qs j where
 at_:qs[j]?=some q
 clf:∀f',f'<f→¬G.tet (4*q+f')<0→G.T (4*q+f')∈qs
def HV (G:Gl)(val:Nat→Int)(z:Int)(t:Nat)(qs:List Nat)(h:Nat→Int):Prop:=∀u,u<G.n→h u=if ptR G u<t∨u∈qs then val u else z
section
variable {G:Gl}(hok:za9 G=true)
include hok
theorem pt_pr:PR G.n (ptR G):=pt_reps hok _ (Nat.le_refl _)
theorem pt_le {x:Nat}(hx:x<G.n):ptR G x≤x:=by obtain⟨u,hu⟩:=pt_pr hok;exact hu.rle x hx
theorem pt_idem {x:Nat}(hx:x<G.n):ptR G (ptR G x)=ptR G x:=by obtain⟨u,hu⟩:=pt_pr hok;exact hu.idem x hx
theorem pt_next {q f:Nat}(hq:q<G.n)(hf:f<4)(ht:¬G.tet (4*q+f)<0):ptR G (G.T (4*q+f))=ptR G q:=by
 have _:=hok
 have:=pt_face (G:=G) (4*G.n) (4*q+f) (by omega) ht
 rw[show (4*q+f) / 4=q by omega] at this
 exact this.symm
theorem SQ.new {t:Nat}(hr:ptR G t=t)(ht:t<G.n):SQ G t [t] 0:=have _:=hok;⟨hr,ht,by simp,fun x hx=>by simp at hx;subst hx;exact⟨ht,hr⟩,fun i q hi=>by omega⟩
omit hok in
theorem SQ.row {t:Nat}{qs:List Nat}{j q:Nat}(h:SQ G t qs j)(hq:qs[j]?=some q):SF G t qs j q 0:=⟨h,hq,fun f' hf=>by omega⟩
omit hok in
theorem SF.skip {t:Nat}{qs:List Nat}{j q f:Nat}(h:SF G t qs j q f)(ht:¬G.tet (4*q+f)<0→G.T (4*q+f)∈qs):SF G t qs j q (f+1):=⟨h.1,h.at_,fun f' hf hn=>by
 by_cases e:f'=f
 ·subst e;exact ht hn
 ·exact h.clf f' (by omega) hn⟩
theorem SF.push {t:Nat}{qs:List Nat}{j q f:Nat}(h:SF G t qs j q f)(hf:f<4)(ht:¬G.tet (4*q+f)<0):SF G t (qs++[G.T (4*q+f)]) j q (f+1):=by
 have hq:=h.of q (List.mem_of_getElem? h.at_)
 have hT:=(zc6 hok (show 4*q+f<4*G.n by omega) ht).2.1
 have hjl:j<qs.length:=(List.getElem?_eq_some_iff.1 h.at_).1
 refine⟨⟨h.root,h.lt,by simp[h.mem],fun x hx=>?_,fun i r hi hr f' hf' hn=>?_⟩,by rw[List.getElem?_append_left hjl];exact h.at_,fun f' hf' hn=>?_⟩
 ·rcases List.mem_append.1 hx with e | e
  ·exact h.of x e
  ·simp at e;subst e;exact⟨hT,by rw[pt_next hok hq.1 hf ht];exact hq.2⟩
 ·rw[List.getElem?_append_left (by omega)] at hr
  exact List.mem_append_left _ (h.clo i r hi hr f' hf' hn)
 ·by_cases e:f'=f
  ·subst e;simp
  ·exact List.mem_append_left _ (h.clf f' (by omega) hn)
omit hok in
theorem SF.next {t:Nat}{qs:List Nat}{j q:Nat}(h:SF G t qs j q 4):SQ G t qs (j+1):=⟨h.root,h.lt,h.mem,h.of,fun i r hi hr f hf hn=>by
 by_cases e:i=j
 ·subst e
  rw[h.at_] at hr
  cases hr
  exact h.clf f hf hn
 ·exact h.clo i r (by omega) hr f hf hn⟩
theorem SQ.all {t:Nat}{qs:List Nat}(h:SQ G t qs qs.length){u:Nat}(hu:u<G.n)(hr:ptR G u=t):u∈qs:=by
 have cl:∀q f,q∈qs→f<4→¬G.tet (4*q+f)<0→G.T (4*q+f)∈qs:=fun q f hq hf hn=>by
  obtain⟨i,hi,he⟩:=List.getElem_of_mem hq
  exact h.clo i q hi (by rw[←he];exact List.getElem?_eq_getElem hi) f hf hn
 have:=pt_closed hok (p:=fun x=>x∈qs) (fun k hk hn=>?_) (4*G.n) (Nat.le_refl _) u hu
 ·rw[this];show ptR G u∈qs;rw[hr];exact h.mem
 ·constructor
  ·intro hm
   have:=cl (k / 4) (k % 4) hm (by omega)
   rw[show 4*(k / 4)+k % 4=k by omega] at this
   exact this hn
  ·intro hm
   obtain⟨b1,b2,b3,-⟩:=ok_back hok hk hn
   have hp:=((zc6 hok hk hn).2.2 (k % 4) (by omega)).2
   have:=cl (G.T k) (G.P k (k % 4)) hm hp b2
   rw[b3] at this
   exact this
variable {val:Nat→Int}{z:Int}
omit hok in
theorem HV.zero:HV G val z 0 [] (fun _=>z):=fun u hu=>by simp
theorem HV.met {t:Nat}{h:Nat→Int}(hh:HV G val z t [] h)(ht:t<G.n)(hne:h t≠z):ptR G t≠t∧HV G val z (t+1) [] h:=by
 have h1:=hh t ht
 have hlt:ptR G t<t:=by
  by_cases e:ptR G t<t
  ·exact e
  ·simp[e] at h1;exact absurd h1 hne
 refine⟨by omega,fun u hu=>?_⟩
 rw[hh u hu]
 have:ptR G u<t↔ptR G u<t+1:=by
  constructor
  ·intro;omega
  ·intro hlt2
   by_cases e:ptR G u=t
   ·have:=pt_idem hok hu;rw[e] at this;omega
   ·omega
 simp[this]
theorem HV.new {t:Nat}{h:Nat→Int}(hz:∀u,u<G.n→val u≠z)(hh:HV G val z t [] h)(ht:t<G.n)(he:h t=z):ptR G t=t∧HV G val z t [t] (fun i=>if i=t then val t else h i):=by
 have h1:=hh t ht
 have hle:=pt_le hok ht
 have hr:ptR G t=t:=by
  by_cases e:ptR G t<t
  ·simp[e] at h1;exact absurd (h1.symm.trans he) (hz t ht)
  ·omega
 refine⟨hr,fun u hu=>?_⟩
 by_cases e:u=t
 ·subst e;simp
 ·simp only[e,if_false,List.mem_singleton,or_false]
  rw[hh u hu];simp
theorem HV.same {t:Nat}{h:Nat→Int}{qs:List Nat}{j q f:Nat}(hh:HV G val z t qs h)(hs:SF G t qs j q f)(hf:f<4)(ht:¬G.tet (4*q+f)<0)(hne:h (G.T (4*q+f))≠z):G.T (4*q+f)∈qs:=by
 have hq:=hs.of q (List.mem_of_getElem? hs.at_)
 have hT:=(zc6 hok (show 4*q+f<4*G.n by omega) ht).2.1
 have h1:=hh _ hT
 by_cases e:G.T (4*q+f)∈qs
 ·exact e
 ·rw[if_neg (by rw[pt_next hok hq.1 hf ht,hq.2];simp[e])] at h1
  exact absurd h1 hne
omit hok in
theorem HV.push {t:Nat}{h:Nat→Int}{qs:List Nat}{x:Nat}(hh:HV G val z t qs h):HV G val z t (qs++[x]) (fun i=>if i=x then val x else h i):=fun u hu=>by
 by_cases e:u=x
 ·subst e;simp
 ·simp only[e,if_false]
  rw[hh u hu];simp[e]
theorem HV.done {t:Nat}{h:Nat→Int}{qs:List Nat}(hh:HV G val z t qs h)(hs:SQ G t qs qs.length):HV G val z (t+1) [] h:=fun u hu=>by
 rw[hh u hu]
 have:(ptR G u<t∨u∈qs)↔(ptR G u<t+1∨u∈([]:List Nat)):=by
  constructor
  ·rintro (h | h)
   ·exact .inl (by omega)
   ·exact .inl (by have:=(hs.of u h).2;omega)
  ·rintro (h | h)
   ·by_cases e:ptR G u=t
    ·exact .inr (hs.all hok hu e)
    ·exact .inl (by omega)
   ·cases h
 simp only[this]
end
def ptN (G:Gl)(u:Nat):Int:=(cnt (ptR G) (ptR G u):Nat)
theorem parts_inv {G:Gl}(hok:za9 G=true):PInv G (fun t p h=>p=cnt (ptR G) t∧HV G (ptN G) (-1) t [] h)
  (fun t p qs h j=>p=cnt (ptR G) t∧SQ G t qs j∧HV G (ptN G) (-1) t qs h) (fun t p qs h j q f=>p=cnt (ptR G) t∧SF G t qs j q f∧HV G (ptN G) (-1) t qs h):=by
 have hz:∀u,u<G.n→ptN G u≠-1:=fun u _=>by unfold ptN;omega
 have hTx:∀k (x:Nat),G.tet k=x→¬G.tet k<0∧G.T k=x:=fun k x e=>⟨by omega,by simp[Gl.T,e]⟩
 refine⟨⟨rfl,HV.zero⟩,?_,?_,?_,?_,?_,?_,?_⟩
 ·rintro t p h ht ⟨rfl,hh⟩ h0
  obtain⟨h1,h2⟩:=hh.met hok ht (by omega)
  exact⟨by simp[cnt,h1],h2⟩
 ·rintro t p h ht ⟨rfl,hh⟩ h0
  have hm:h t=-1:=by
   have:=hh t ht
   split at this
   ·unfold ptN at this;omega
   ·exact this
  obtain⟨h1,h2⟩:=hh.new hok hz ht hm
  refine⟨rfl,SQ.new hok h1 ht,?_⟩
  have:ptN G t=(cnt (ptR G) t:Nat):=by unfold ptN;rw[h1]
  rw[this] at h2;exact h2
 ·rintro t p qs h j hj ⟨rfl,hs,hh⟩
  exact⟨rfl,hs.row (List.getElem?_eq_getElem hj),hh⟩
 ·rintro t p qs h j q f hq hf ⟨rfl,hs,hh⟩ hc
  refine⟨rfl,hs.skip fun hn=>?_,hh⟩
  rcases hc with hc | ⟨x,h1,h2,h3⟩
  ·exact absurd hc hn
  ·exact hh.same hok hs hf hn (by rw[(hTx _ _ h1).2];omega)
 ·rintro t p qs h j q f x hq hf ⟨rfl,hs,hh⟩ hx hxn h0
  obtain⟨hn,hT⟩:=hTx _ _ hx
  have:=hs.push hok hf hn
  rw[hT] at this
  refine⟨rfl,this,?_⟩
  have h1:=(this.of x (by simp)).2
  have h2:ptN G x=(cnt (ptR G) t:Nat):=by unfold ptN;rw[h1]
  have:=hh.push (x:=x)
  rw[h2] at this
  exact this
 ·rintro t p qs h j q ⟨rfl,hs,hh⟩
  exact⟨rfl,hs.next,hh⟩
 ·rintro t p qs h ht ⟨rfl,hs,hh⟩
  exact⟨by simp[cnt,hs.root],hh.done hok hs⟩
def mxF (h:Nat→Int):Nat→Int
 | 0=>0
 | k+1=>max (mxF h k) (h k+1)
theorem mx_cnt {r:Nat→Nat}{n:Nat}(hr:PR n r){h:Nat→Int}(hh:∀u,u<n→h u=(cnt r (r u):Nat)):∀k,k≤n→mxF h k=(cnt r k:Nat)
 | 0,_=>rfl
 | k+1,hk=>by
  have ih:=mx_cnt hr hh k (by omega)
  obtain⟨u,hu⟩:=hr
  have hle:=hu.rle k (by omega)
  have hid:=hu.idem k (by omega)
  rw[mxF,ih,hh k (by omega)]
  by_cases e:r k=k
  ·simp only[cnt,e,if_true];omega
  ·have h1:=cnt_mono r (show r k+1≤k by omega)
   simp only[cnt,hid,if_true] at h1
   simp only[cnt,e,if_false];omega
end
section
open Go.RowKit Go.Shelf Go.Maps
theorem und127:Try.prog.underlying 127=some (.map 83 4):=by kernel_rfl
def mI (a:Nat):Value:=.int .i64 (a:Int)
def okI (a:Nat):Prop:=a<9223372036854775808
theorem okI0:okI 0:=by show 0<9223372036854775808;omega
theorem codesI:Codes 3 okI mI:=codes_int
theorem wpList_insert {α β:Type}[DecidableEq α]{W:World}{k e:TypeId}{ok:α→Prop}{κ:α→Value}{ν:β→Value}{b n:Nat}{D:α→Option β}{ops:Array Oper}{rest:List Oper}{o:Oper}{act:Act}{Q:Exit→Act→World→Prop}(hg:o.guard=none)(t:TypeId)(m x v:Operand)(hop:o.op=Op.insert t m x v)
  (C:Codes k ok κ) (ht:Try.prog.underlying t=some (.map k e)) (h:MapIs W k ok κ ν b n D) (a:α) (ha:ok a) (c:β) (hm:act.eval m=.map (some b)) (hx:act.eval x=κ a) (hv:act.eval v=ν c)
  (hK:∀W',MapIs W' k ok κ ν b (if (D a).isSome then n else n+1) (fun x=>if x=a then some c else D x)→W.grownBy W' (some b)→W'.heap.size=W.heap.size→wpList Try.prog ops Q rest (act.put o.dst undef) W') :
  wpList Try.prog ops Q (o :: rest) act W:=by
 refine wpList_plain hg fun K' hK'=>?_
 obtain⟨W',hrun,r1,r2,r3⟩:=h.update C ht a ha c
 unfold Oper.wp
 simp[execOp,hop,hm,hx,hv,hrun,Result.andThen]
 exact hK' _ _ (hK W' r1 r2 r3)
structure TQ (w W:World)(N n:Nat)(v qv:Value)(qs:List Nat)(h:Nat→Int):Prop where
 own:W.ownsRow (N+3) 3 1 qv qs.length (qs.map fun (q:Nat)=>Value.int .i64 (q:Int))
 met:∃nn,MapIs W 3 okI mI Value.bool (N+2) nn (fun a=>if h a=0 then none else some true)
 out:∃nn D,MapIs W 83 okp kp Value.bool (N+1) nn D
 qlt:∀q∈qs,q<n
 cnt:qs.length≤nzc h n
 c0:W.cell? ⟨N,0,none⟩=some v
 bel:Below N w W
theorem TQ.kept {w W W':World}{N n:Nat}{v qv:Value}{qs:List Nat}{h:Nat→Int}(hq:TQ w W N n v qv qs h)(hg:W.grownBy W' none):TQ w W' N n v qv qs h:=by
 obtain⟨n1,h1⟩:=hq.met
 obtain⟨n2,D,h2⟩:=hq.out
 exact⟨hq.own.kept hg (by cases qv.ownBlock<;>simp),⟨n1,h1.kept hg (by simp)⟩,⟨n2,D,h2.kept hg (by simp)⟩,hq.qlt,hq.cnt,hg.cell hq.c0 (by simp),hq.bel.grown hg (by have:=za0 hq.c0;simp only at this;omega) (fun k e=>by cases e)⟩
theorem TQ.lo {w W:World}{N n:Nat}{v qv:Value}{qs:List Nat}{h:Nat→Int}(hq:TQ w W N n v qv qs h):∀b,b<N+3→some b≠qv.ownBlock:=fun b hb e=>by have:=(hq.own.lt b e.symm).1;omega
theorem TQ.outp {w W W':World}{N n nn:Nat}{v qv:Value}{qs:List Nat}{h:Nat→Int}{D:Nat×Nat→Option Bool}(hq:TQ w W N n v qv qs h)(hm:MapIs W' 83 okp kp Value.bool (N+1) nn D)(hg:W.grownBy W' (some (N+1))):TQ w W' N n v qv qs h:=by
 obtain⟨n1,h1⟩:=hq.met
 exact⟨hq.own.kept hg (.inr (fun e=>hq.lo _ (by omega) e.symm)),⟨n1,h1.kept hg (by simp)⟩,⟨_,_,hm⟩,hq.qlt,hq.cnt,hg.cell hq.c0 (by simp),hq.bel.grown hg (by have:=za0 hq.c0;simp only at this;omega) (fun k e=>by cases e;omega)⟩
theorem TQ.qcell {w W:World}{N n:Nat}{v qv:Value}{qs:List Nat}{h:Nat→Int}(hq:TQ w W N n v qv qs h){k q:Nat}(hk:qs[k]?=some q):∃g cap,qv=.slice (some ⟨g,0,none⟩) qs.length cap∧W.cell? ⟨g,k,none⟩=some (.int .i64 ((q:Nat):Int))∧q<n:=by
 have hkl:=(List.getElem?_eq_some_iff.1 hk).1
 obtain⟨g,cap,hv,_⟩:=hq.own.form (by omega)
 refine⟨g,cap,hv,?_,hq.qlt _ (List.mem_of_getElem? hk)⟩
 have:=hq.own.cells (g:=g) (by rw[hv];rfl) k (.int .i64 (q:Nat)) (by simp[hk])
 rwa [Addr.add_mid,Nat.zero_add] at this
theorem TQ.push {w W W1 W2 w3:World}{N n g cap nn:Nat}{v qv:Value}{qs:List Nat}{h:Nat→Int}(hq:TQ w W N n v qv qs h){x:Nat}(hx:x<n)(h0:h x=0)
  (hm:MapIs W1 3 okI mI Value.bool (N+2) nn (fun a=>if a=x then some true else if h a=0 then none else some true)) (hg1:W.grownBy W1 (some (N+2))) (hg2:W1.grownBy W2 none)
  (a1:w3.ownsRow (N+3) 3 1 (.slice (some ⟨g,0,none⟩) (qs.length+1) cap) (qs.length+1) ((qs.map fun (q:Nat)=>Value.int .i64 (q:Int))++[.int .i64 (x:Int)])) (a2:W2.grownBy w3 qv.ownBlock) :
  TQ w w3 N n v (.slice (some ⟨g,0,none⟩) (qs.length+1) cap) (qs++[x]) (fun i=>if i=x then 1 else h i):=by
 obtain⟨n2,D,h2⟩:=hq.out
 have hN:=za0 hq.c0
 simp only at hN
 have hs1:=hg1.size
 have hs2:=hg2.size
 refine⟨by simpa using a1,⟨nn,(((hm.kept hg2 (by simp)).kept a2 (hq.lo _ (by omega))).congr (fun a=>?_))⟩,⟨n2,D,((h2.kept hg1 (by simp)).kept hg2 (by simp)).kept a2 (hq.lo _ (by omega))⟩,fun q hm=>?_,?_,a2.cell (hg2.cell (hg1.cell hq.c0 (by simp)) (by simp)) (hq.lo N (by omega)),?_⟩
 ·by_cases e:a=x<;>simp[e]
 ·rcases List.mem_append.1 hm with q1 | q1
  ·exact hq.qlt q q1
  ·simp at q1;omega
 ·rw[nzc_set hx h0 (by decide)]
  have:=hq.cnt
  simp;omega
 ·exact ((hq.bel.grown hg1 (by omega) (fun k e=>by cases e;omega)).grown hg2 (by omega) (fun k e=>by cases e)).grown a2 (by omega) (fun k e=>by have:=(hq.own.lt k e).1;omega)
theorem slice_blk {g g' n n' c c':Nat}(h:Value.slice (some ⟨g,0,none⟩) n c=.slice (some ⟨g',0,none⟩) n' c'):g'=g:=by
 simp at h;omega
end
section
open Go.RowKit Go.Shelf Go.Maps
section
variable {P:Program}{md:Region.Mode}{ops:Array Oper}{Q:Exit→Act→World→Prop}{a:Act}{g:Nat}{J:Nat→Array Bool→World→Prop}
theorem wpAny_bag (h0:∀ls w,J 0 ls w→wpAny P md ops Q g ls a w)
  (hs:∀n ls w,J (n+1) ls w→Region.ready md ops ls≠[]∧∀i∈Region.ready md ops ls,wpOp P ops Q i (fun a' w'=>a'=a∧J n (ls.setIfInBounds i true) w') a w) :
  ∀n ls w,J n ls w→wpAny P md ops Q (g+n) ls a w
 | 0,ls,w,h=>h0 ls w h
 | n+1,ls,w,h=>⟨fun e=>absurd e (hs n ls w h).1,fun i hi=>wpOp_mono (fun a' w' h'=>by
   obtain⟨e,h2⟩:=h'
   rw[e]
   exact wpAny_bag h0 hs n _ w' h2) ((hs n ls w h).2 i hi)⟩
end
def L6 (m:Nat):Array Bool:=#[true,true,m.testBit 0,true,m.testBit 1,true,m.testBit 2,true,m.testBit 3,true,m.testBit 4,true,m.testBit 5,false,true,true,true,true,true,true,true,false,false]
def bagB (md:Region.Mode)(ops:Array Oper):Bool:=(List.range 64).all fun m=>(m==63 || !(Region.ready md ops (L6 m)).isEmpty) && (m==63 || (Region.ready md ops (L6 m)).all fun i=>(List.range 6).any fun e=>i==2*e+2 && !m.testBit e)
theorem bag_ready {md:Region.Mode}{ops:Array Oper}(h:bagB md ops=true){m:Nat}(hm:m<64)(h63:m≠63):Region.ready md ops (L6 m)≠[]∧∀i∈Region.ready md ops (L6 m),∃e,e<6∧i=2*e+2∧m.testBit e=false:=by
 have h1:=(List.all_eq_true.1 h) m (List.mem_range.2 hm)
 have hb:(m==63)=false:=by simpa using h63
 rw[hb,Bool.false_or,Bool.false_or,Bool.and_eq_true] at h1
 refine⟨fun e=>by rw[e] at h1;simp at h1,fun i hi=>?_⟩
 have h2:=(List.all_eq_true.1 h1.2) i hi
 obtain⟨e,he,h3⟩:=List.any_eq_true.1 h2
 simp only[Bool.and_eq_true,beq_iff_eq,Bool.not_eq_true'] at h3
 exact⟨e,List.mem_range.1 he,h3.1,h3.2⟩
theorem bag_step {md:Region.Mode}{ops:Array Oper}{m:Nat}{X:Nat→Prop}(h:bagB md ops=true)(hm:m<64)(h63:m≠63)(hX:∀e,e<6→m.testBit e=false→X (2*e+2)):Region.ready md ops (L6 m)≠[]∧∀i∈Region.ready md ops (L6 m),X i:=by
 have h1:=bag_ready h hm h63
 refine⟨h1.1,fun i hi=>?_⟩
 obtain⟨e,he,rfl,hb⟩:=h1.2 i hi
 exact hX e he hb
theorem L6_set:∀m,m<64→∀e,e<6→m.testBit e=false→(L6 m).setIfInBounds (2*e+2) true=L6 (m+2 ^ e)∧m+2 ^ e<64:=by decide +kernel
theorem bit_set:∀m,m<64→∀e,e<6→m.testBit e=false→∀e',e'<6→(m+2 ^ e).testBit e'=(e'==e || m.testBit e'):=by decide +kernel
def cn6 (m:Nat):Nat:=((List.range 6).filter fun e=>!m.testBit e).length
theorem cn6_set:∀m,m<64→∀e,e<6→m.testBit e=false→cn6 m=cn6 (m+2 ^ e)+1:=by decide +kernel
theorem cn6_zero:∀m,m<64→cn6 m=0→m=63:=by decide +kernel
def eno (p:Nat×Nat):Nat:=if p=(0,1) then 0 else if p=(0,2) then 1 else if p=(0,3) then 2 else if p=(1,2) then 3 else if p=(1,3) then 4 else if p=(2,3) then 5 else 6
def kee:Nat→Nat×Nat
 | 0=>(0,1) | 1=>(0,2) | 2=>(0,3) | 3=>(1,2) | 4=>(1,3) | _=>(2,3)
theorem eno_kee:∀e,e<6→eno (kee e)=e:=by decide
theorem kee_eno (p:Nat×Nat)(h:eno p<6):kee (eno p)=p:=by
 unfold eno at h ⊢
 repeat' split
 all_goals first|(simp_all [kee];done) | skip
 all_goals simp_all
def dd6 (m:Nat)(p:Nat×Nat):Option Nat:=if eno p<6∧m.testBit (eno p)=true then some (eno p) else none
theorem dd6_put {m:Nat}(hm:m<64){e:Nat}(he:e<6)(hb:m.testBit e=false)(p:Nat×Nat):(if p=kee e then some e else dd6 m p)=dd6 (m+2 ^ e) p:=by
 by_cases q:p=kee e
 ·rw[if_pos q,q]
  unfold dd6
  rw[eno_kee e he,if_pos ⟨he,by rw[bit_set m hm e he hb e he];simp⟩]
 ·rw[if_neg q]
  unfold dd6
  by_cases h:eno p<6
  ·have:(eno p==e)=false:=by
    rw[beq_eq_false_iff_ne];exact fun h2=>q (by rw[←h2,kee_eno p h])
   rw[bit_set m hm e he hb _ h,this,Bool.false_or]
  ·rw[if_neg (fun x=>h x.1),if_neg (fun x=>h x.1)]
end
section
open Go.RowKit Go.Shelf Go.Maps
theorem und82:Try.prog.underlying 82=some (.array 2 3):=by kernel_rfl
theorem law82:Keyed Try.prog 82:=Keyed.of_law (deep_law_laid laidOut (m:=2) (by omega) (of_decide_eq_true (by kernel_rfl)) (by kernel_rfl) (by rw[und82]))
theorem arr82:WideMaps.ArrKey Try.prog 82 3 2:=⟨und82,by kernel_rfl,by kernel_rfl,by kernel_rfl⟩
theorem codes82:Codes 82 okp kp:=⟨law82,fun _a ha=>⟨_,WideMaps.keyOf_pair arr82 Try.underlying3 siz (wf_nat ha.1) (wf_nat ha.2)⟩,fun a a' _ _ h=>kp_inj a a' h⟩
theorem und188:Try.prog.underlying 188=some (.map 82 3):=by kernel_rfl
theorem wp_insert {α β:Type}[DecidableEq α]{W:World}{k e:TypeId}{ok:α→Prop}{κ:α→Value}{ν:β→Value}{b n:Nat}{D:α→Option β}{o:Oper}{act:Act}{K:Act→World→Prop}{Q:Exit→Act→World→Prop}(t:TypeId)(m x v:Operand)(hop:o.op=Op.insert t m x v)
  (C:Codes k ok κ) (ht:Try.prog.underlying t=some (.map k e)) (h:MapIs W k ok κ ν b n D) (a:α) (ha:ok a) (c:β) (hm:act.eval m=.map (some b)) (hx:act.eval x=κ a) (hv:act.eval v=ν c)
  (hK:∀W',MapIs W' k ok κ ν b (if (D a).isSome then n else n+1) (fun x=>if x=a then some c else D x)→W.grownBy W' (some b)→W'.heap.size=W.heap.size→K (act.put o.dst undef) W') :
  o.wp Try.prog act W K Q:=by
 obtain⟨W',hrun,r1,r2,r3⟩:=h.update C ht a ha c
 unfold Oper.wp
 simp[execOp,hop,hm,hx,hv,hrun,Result.andThen]
 exact hK W' r1 r2 r3
def MW (w:World)(n:Nat)(ls:Array Bool)(W:World):Prop:=∃m,m<64∧ls=L6 m∧cn6 m=n∧(∃nn,MapIs W 82 okp kp vi w.heap.size nn (dd6 m))∧Below w.heap.size w W
theorem gedge_walk (i j:Nat)(hi:i<4)(hj:j<4)(hij:i≠j)(w:World):Calls Try.prog 78 #[.int .i64 (i:Int),.int .i64 (j:Int)] w fun e w'=>e=.returned (.int .i64 (eno (min i j,max i j):Int))∧Below w.heap.size w w':=by
 go_enter Try.func78,Try.ntmps78
 go_wp2_with fail
 refine wp_region_noPanic ?_
 refine wp_region_any (by kernel_rfl) ?_
 change wpAny _ _ _ _ 23 #[false,false,false,false,false,false,false,false,false,false,false,false,false,false,false,false,false,false,false,false,false,false,false] _ (World.drew _)
 refine wpAny_take (i:=1) (v:=?v1) rfl (by kernel_rfl) (by kernel_rfl) (by kernel_rfl) (fun _ _ _ h=>h) (Or.inl ⟨by rfl,?yy1⟩) ?rr1
 case yy1=>
  intro w8
  go_simp
  try with_reducible rfl
 simp only[Act.put,nrm]
 refine wpAny_take (i:=3) (v:=?v3) rfl (by kernel_rfl) (by kernel_rfl) (by kernel_rfl) (fun _ _ _ h=>h) (Or.inl ⟨by rfl,?yy3⟩) ?rr3
 case yy3=>
  intro w8
  go_simp
  try with_reducible rfl
 simp only[Act.put,nrm]
 refine wpAny_take (i:=5) (v:=?v5) rfl (by kernel_rfl) (by kernel_rfl) (by kernel_rfl) (fun _ _ _ h=>h) (Or.inl ⟨by rfl,?yy5⟩) ?rr5
 case yy5=>
  intro w8
  go_simp
  try with_reducible rfl
 simp only[Act.put,nrm]
 refine wpAny_take (i:=7) (v:=?v7) rfl (by kernel_rfl) (by kernel_rfl) (by kernel_rfl) (fun _ _ _ h=>h) (Or.inl ⟨by rfl,?yy7⟩) ?rr7
 case yy7=>
  intro w8
  go_simp
  try with_reducible rfl
 simp only[Act.put,nrm]
 refine wpAny_take (i:=9) (v:=?v9) rfl (by kernel_rfl) (by kernel_rfl) (by kernel_rfl) (fun _ _ _ h=>h) (Or.inl ⟨by rfl,?yy9⟩) ?rr9
 case yy9=>
  intro w8
  go_simp
  try with_reducible rfl
 simp only[Act.put,nrm]
 refine wpAny_take (i:=11) (v:=?v11) rfl (by kernel_rfl) (by kernel_rfl) (by kernel_rfl) (fun _ _ _ h=>h) (Or.inl ⟨by rfl,?yy11⟩) ?rr11
 case yy11=>
  intro w8
  go_simp
  try with_reducible rfl
 simp only[Act.put,nrm]
 refine wpAny_take (i:=14) (v:=?v14) rfl (by kernel_rfl) (by kernel_rfl) (by kernel_rfl) (fun _ _ _ h=>h) (Or.inl ⟨by rfl,?yy14⟩) ?rr14
 case yy14=>
  intro w8
  go_simp
  try with_reducible rfl
 simp only[Act.put,nrm]
 refine wpAny_take (i:=15) (v:=?v15) rfl (by kernel_rfl) (by kernel_rfl) (by kernel_rfl) (fun _ _ _ h=>h) (Or.inl ⟨by rfl,?yy15⟩) ?rr15
 case yy15=>
  intro w8
  go_simp
  try with_reducible rfl
 simp only[Act.put,nrm]
 refine wpAny_take (i:=16) (v:=?v16) rfl (by kernel_rfl) (by kernel_rfl) (by kernel_rfl) (fun _ _ _ h=>h) (Or.inl ⟨by rfl,?yy16⟩) ?rr16
 case yy16=>
  intro w8
  go_simp
  try with_reducible rfl
 simp only[Act.put,nrm]
 refine wpAny_take (i:=17) (v:=?v17) rfl (by kernel_rfl) (by kernel_rfl) (by kernel_rfl) (fun _ _ _ h=>h) (Or.inl ⟨by rfl,?yy17⟩) ?rr17
 case yy17=>
  intro w8
  go_simp
  try with_reducible rfl
 simp only[Act.put,nrm]
 refine wpAny_take (i:=18) (v:=?v18) rfl (by kernel_rfl) (by kernel_rfl) (by kernel_rfl) (fun _ _ _ h=>h) (Or.inl ⟨by rfl,?yy18⟩) ?rr18
 case yy18=>
  intro w8
  go_simp
  try with_reducible rfl
 simp only[Act.put,nrm]
 refine wpAny_take (i:=19) (v:=?v19) rfl (by kernel_rfl) (by kernel_rfl) (by kernel_rfl) (fun _ _ _ h=>h) (Or.inl ⟨by rfl,?yy19⟩) ?rr19
 case yy19=>
  intro w8
  go_simp
  try with_reducible rfl
 simp only[Act.put,nrm]
 refine wpAny_take (i:=20) (v:=?v20) rfl (by kernel_rfl) (by kernel_rfl) (by kernel_rfl) (fun _ _ _ h=>h) (Or.inl ⟨by rfl,?yy20⟩) ?rr20
 case yy20=>
  intro w8
  go_simp
  try with_reducible rfl
 simp only[Act.put,nrm]
 refine wpAny_ready (rs:=[0]) (by kernel_rfl) (by simp) (AllReady.cons rfl (fun K hK=>?_) AllReady.nil)
 go_simp
 refine hK _ _ ?_
 clear hK K
 refine wpAny_bag (g:=3) (J:=MW w) ?h0 ?hs 6 _ _ ⟨0,by omega,rfl,rfl,⟨0,(MapIs.made w.drew).congr (fun p=>by simp[dd6])⟩,(za5 (Below.refl _ _)).alloc (Nat.le_refl _) _⟩
 case hs=>
  intro n ls W h
  obtain⟨m,hm,rfl,hc,⟨nn,hM⟩,hb⟩:=h
  have h63:m≠63:=by
   intro h
   rw[h] at hc
   exact absurd (show cn6 63=0 by decide) (by omega)
  refine bag_step (by kernel_rfl) hm h63 (fun e he hbit=>?_)
  rcases (show e=0∨e=1∨e=2∨e=3∨e=4∨e=5 by omega) with rfl | rfl | rfl | rfl | rfl | rfl
  ·refine wpOp_step (i:=2) rfl (fun K' hK=>?_)
   rw[if_pos (by rfl)]
   refine wp_insert 188 (.tmp 5) (.tmp 6) (.const (.int .i64 0)) rfl codes82 und188 hM (kee 0) ⟨by decide,by decide⟩ 0 rfl rfl rfl ?_
   intro W' h1 h2 h3
   exact hK _ _ ⟨rfl,m+2 ^ 0,(L6_set m hm 0 (by omega) hbit).2,(L6_set m hm 0 (by omega) hbit).1,by have:=cn6_set m hm 0 (by omega) hbit;omega,⟨_,h1.congr (dd6_put hm (by omega) hbit)⟩,hb.grown h2 hb.size (fun r e=>by cases e;exact Nat.le_refl _)⟩
  ·refine wpOp_step (i:=4) rfl (fun K' hK=>?_)
   rw[if_pos (by rfl)]
   refine wp_insert 188 (.tmp 5) (.tmp 7) (.const (.int .i64 1)) rfl codes82 und188 hM (kee 1) ⟨by decide,by decide⟩ 1 rfl rfl rfl ?_
   intro W' h1 h2 h3
   exact hK _ _ ⟨rfl,m+2 ^ 1,(L6_set m hm 1 (by omega) hbit).2,(L6_set m hm 1 (by omega) hbit).1,by have:=cn6_set m hm 1 (by omega) hbit;omega,⟨_,h1.congr (dd6_put hm (by omega) hbit)⟩,hb.grown h2 hb.size (fun r e=>by cases e;exact Nat.le_refl _)⟩
  ·refine wpOp_step (i:=6) rfl (fun K' hK=>?_)
   rw[if_pos (by rfl)]
   refine wp_insert 188 (.tmp 5) (.tmp 8) (.const (.int .i64 2)) rfl codes82 und188 hM (kee 2) ⟨by decide,by decide⟩ 2 rfl rfl rfl ?_
   intro W' h1 h2 h3
   exact hK _ _ ⟨rfl,m+2 ^ 2,(L6_set m hm 2 (by omega) hbit).2,(L6_set m hm 2 (by omega) hbit).1,by have:=cn6_set m hm 2 (by omega) hbit;omega,⟨_,h1.congr (dd6_put hm (by omega) hbit)⟩,hb.grown h2 hb.size (fun r e=>by cases e;exact Nat.le_refl _)⟩
  ·refine wpOp_step (i:=8) rfl (fun K' hK=>?_)
   rw[if_pos (by rfl)]
   refine wp_insert 188 (.tmp 5) (.tmp 9) (.const (.int .i64 3)) rfl codes82 und188 hM (kee 3) ⟨by decide,by decide⟩ 3 rfl rfl rfl ?_
   intro W' h1 h2 h3
   exact hK _ _ ⟨rfl,m+2 ^ 3,(L6_set m hm 3 (by omega) hbit).2,(L6_set m hm 3 (by omega) hbit).1,by have:=cn6_set m hm 3 (by omega) hbit;omega,⟨_,h1.congr (dd6_put hm (by omega) hbit)⟩,hb.grown h2 hb.size (fun r e=>by cases e;exact Nat.le_refl _)⟩
  ·refine wpOp_step (i:=10) rfl (fun K' hK=>?_)
   rw[if_pos (by rfl)]
   refine wp_insert 188 (.tmp 5) (.tmp 10) (.const (.int .i64 4)) rfl codes82 und188 hM (kee 4) ⟨by decide,by decide⟩ 4 rfl rfl rfl ?_
   intro W' h1 h2 h3
   exact hK _ _ ⟨rfl,m+2 ^ 4,(L6_set m hm 4 (by omega) hbit).2,(L6_set m hm 4 (by omega) hbit).1,by have:=cn6_set m hm 4 (by omega) hbit;omega,⟨_,h1.congr (dd6_put hm (by omega) hbit)⟩,hb.grown h2 hb.size (fun r e=>by cases e;exact Nat.le_refl _)⟩
  ·refine wpOp_step (i:=12) rfl (fun K' hK=>?_)
   rw[if_pos (by rfl)]
   refine wp_insert 188 (.tmp 5) (.tmp 11) (.const (.int .i64 5)) rfl codes82 und188 hM (kee 5) ⟨by decide,by decide⟩ 5 rfl rfl rfl ?_
   intro W' h1 h2 h3
   exact hK _ _ ⟨rfl,m+2 ^ 5,(L6_set m hm 5 (by omega) hbit).2,(L6_set m hm 5 (by omega) hbit).1,by have:=cn6_set m hm 5 (by omega) hbit;omega,⟨_,h1.congr (dd6_put hm (by omega) hbit)⟩,hb.grown h2 hb.size (fun r e=>by cases e;exact Nat.le_refl _)⟩
 case h0=>
  intro ls W h
  obtain⟨m,hm,rfl,hc,⟨nn,hM⟩,hb⟩:=h
  obtain rfl:=cn6_zero m hm hc
  change wpAny _ _ _ _ 3 #[true,true,true,true,true,true,true,true,true,true,true,true,true,false,true,true,true,true,true,true,true,false,false] _ _
  have hlk:=hM.look codes82 und188 (zero3 _) false (min i j,max i j) ⟨by show min i j<_;omega,by show max i j<_;omega⟩
  have he6:eno (min i j,max i j)<6:=by
   rcases (show i=0∨i=1∨i=2∨i=3 by omega) with rfl | rfl | rfl | rfl<;>rcases (show j=0∨j=1∨j=2∨j=3 by omega) with rfl | rfl | rfl | rfl<;>first | exact absurd rfl hij | decide
  have hdd:dd6 63 (min i j,max i j)=some (eno (min i j,max i j)):=by
   unfold dd6
   rw[if_pos ⟨he6,by
    rcases (show eno (min i j,max i j)=0∨eno (min i j,max i j)=1∨eno (min i j,max i j)=2∨eno (min i j,max i j)=3∨eno (min i j,max i j)=4∨eno (min i j,max i j)=5 by omega) with h | h | h | h | h | h<;>rw[h]<;>decide⟩]
  rw[hdd] at hlk
  simp only[Bool.false_eq_true,if_false,Option.elim] at hlk
  unfold kp vi at hlk
  simp only[show ((min i j:Nat):Int)=min (i:Int) (j:Int) by omega,show ((max i j:Nat):Int)=max (i:Int) (j:Int) by omega] at hlk
  have HB:=Lib.hid hb
  obtain⟨en,hen⟩:∃en,en=eno (min i j,max i j):=⟨_,rfl⟩
  rw[←hen] at hlk
  have HEN:=Lib.hid hen
  clear hM hb hdd he6 hen
  refine wpAny_take (i:=13) (v:=?v13) rfl (by kernel_rfl) (by kernel_rfl) (by kernel_rfl) (fun _ _ _ h=>h) (Or.inl ⟨by rfl,?yy13⟩) ?rr13
  case yy13=>
   intro w8
   go_simp
   try with_reducible rfl
  simp only[Act.put,nrm]
  refine wpAny_ready (rs:=[21]) (by kernel_rfl) (by simp) (AllReady.cons rfl (fun K hK=>?_) AllReady.nil)
  go_simp
  refine hK _ _ ?_
  clear hK K
  refine wpAny_ready (rs:=[22]) (by kernel_rfl) (by simp) (AllReady.cons rfl (fun K hK=>?_) AllReady.nil)
  go_simp
  refine hK _ _ ?_
  clear hK K
  refine wpAny_done (by kernel_rfl) ?_ _
  refine NoPanic.normal ?_
  go_wp2
  go_ret
  exact⟨by rw[←HEN.out];rfl,HB.out⟩
end
section
open Go.RowKit Go.Shelf Go.Maps
end
end Go.Proofs.Ytlckpgahijlmoaa
