/- R11's Image: the walk. -/
import Derived.Test.YtlckpgahijlmoaaQ41
import Derived.Test.YtlckpgahijlmoaaQ35
import Derived.Test.YtlckpgahijlmoaaQ40
set_option maxRecDepth 100000
set_option maxHeartbeats 8000000
namespace Go.Proofs.Ytlckpgahijlmoaa
section
open Go.RowKit Go.Shelf
theorem PQ.qcell2 {w W:World}{N n:Nat}{v qv:Value}{qs:List Nat}{h:Nat→Int}(hq:PQ w W N n v qv qs h){k:Nat}(hk:k<qs.length):∃g cap q,qv=.slice (some ⟨g,0,none⟩) qs.length cap∧W.cell? ⟨g,k,none⟩=some (.int .i64 ((q:Nat):Int))∧q<n∧qs[k]?=some q:=by
 obtain⟨g,cap,hv,_⟩:=hq.own.form (by omega)
 refine⟨g,cap,qs[k],hv,?_,hq.qlt _ (List.getElem_mem hk),List.getElem?_eq_getElem hk⟩
 have:=hq.own.cells (g:=g) (by rw[hv];rfl) k (.int .i64 (qs[k]:Nat)) (by simp[hk])
 rwa [Addr.add_mid,Nat.zero_add] at this
theorem pparts_walk (G:Gl)(hok:za9 G=true){A:Nat→Nat→(Nat→Int)→Prop}{B:Nat→Nat→List Nat→(Nat→Int)→Nat→Prop}{C:Nat→Nat→List Nat→(Nat→Int)→Nat→Nat→Nat→Prop}(hI:PInv G A B C)(v:Value)(w:World)(hG:GlAt w.heap.size w v G) :
  Calls Try.prog 109 #[.agg #[v]] w fun e w'=>∃(d p:Nat) (h:Nat→Int),e=.returned (.tuple #[.slice (some ⟨d,0,none⟩) G.n G.n,.int .i64 (p:Int)])∧zb7 w' d G.n h∧A G.n p h∧Below w.heap.size w w':=by
 have hn:G.n≤1000:=by simp only[za9,Bool.and_eq_true,decide_eq_true_eq] at hok;exact hok.1
 have hmk:=run_make_row' (P:=Try.prog) 35 3 (.int .i64 0) 8 und35 info3 rfl .i64 .i64 G.n (by omega) (by omega)
 have HG:=Hd2 hok hG
 have HI:=Lib.hid hI
 obtain⟨a,cap,rfl⟩:∃a cap,v=.slice a G.n cap:=by obtain⟨a,_,_,cap,e,_⟩:=hG;exact⟨a,cap,e⟩
 clear hok hG hI
 generalize hN:w.heap.size=N at *
 obtain⟨n,hne⟩:∃n,n=G.n:=⟨_,rfl⟩
 rw[←hne] at hn hmk ⊢
 have HNN:=Hd2 hN hne
 clear hne
 go_enter Try.func109,Try.ntmps109
 go_wp2
 refine zb3 fun W1 hW=>?_
 have h1:zb7 W1 (N+1) n (fun i=>if i<0 then -1 else 0)∧W1.cell? ⟨N,0,none⟩=some (.slice a n cap)∧Below N w W1:=by
  subst hN
  have:=World.rowIs_made (w.alloc (.cells #[.slice a n cap] 24)) (.int .i64 0) n 3
  simp only[World.size_alloc] at this
  rw[hW]
  exact⟨this.congr (fun i _=>by simp),by simp[go_sem],by (repeat' (first | assumption | exact Below.refl _ _ | refine za7 ?_ (by assumption) | refine zb2 ?_ _ | refine za5 ?_ | refine zb1 ?_ (by simp<;>omega) _))⟩
 have H1:=Lib.hid h1
 clear h1 hW hmk
 go_loopw [18] (fun i wr=>∃k:Nat,k≤n∧i=.int .i64 k∧zb7 wr (N+1) n (fun i=>if i<k then -1 else 0)∧wr.cell? ⟨N,0,none⟩=some (.slice a n cap)∧Below N w wr) (fun i _=>n-(intOf i).toNat)
 case atStart=>exact⟨0,by omega,rfl,H1.out⟩
 case round=>
  clear H1
  obtain⟨k,hk,rfl,hr,hc,hb⟩:=hrel
  have HK:=Hd3 hr hc hb
  rcases Nat.lt_or_ge k n with hkn | hkn
  ·have ck:=hr.cell hkn
   have fk:=hr.frozen k
   clear hr hb
   go_wp2
   refine⟨⟨k+1,by omega,by simp,(HK.out.1.set k _).congr (fun i _=>?_),(za1 wr (N+1) k _).cell HK.out.2.1 (by simp),HK.out.2.2.setCell (by show N≤N+1;omega) _⟩,by simp[intOf];omega⟩
   by_cases e:i=k
   ·simp[e]
   ·have:i<k+1↔i<k:=by omega
    simp[e,this]
  ·obtain rfl:k=n:=by omega
   have H2:=Lib.hid (show zb7 wr (N+1) k (fun _=>-1)∧wr.cell? ⟨N,0,none⟩=some (.slice a k cap)∧Below N w wr from⟨hr.congr (fun i hi=>by simp[hi]),hc,hb⟩)
   clear hr hc hb HK
   go_wp2
   clear hk hkn
   go_loopw [6,27] (fun pv i wr=>∃(t p:Nat) (h:Nat→Int),t≤k∧p≤t∧i=.int .i64 t∧pv=.int .i64 p∧A t p h∧zb7 wr (N+1) k h∧(∀j,j<k→-1≤h j)∧wr.cell? ⟨N,0,none⟩=some (.slice a k cap)∧Below N w wr) (fun _ i _=>k-(intOf i).toNat)
   case atStart=>exact⟨0,0,fun _=>-1,by omega,by omega,rfl,rfl,HI.out.start,H2.out.1,fun _ _=>Int.le_refl _,H2.out.2⟩
   case round=>
    clear H2
    obtain⟨t,p,h,ht,hpt,rfl,rfl,hA,hr,hsv,hc,hb⟩:=hrel
    have HK:=Hd5 hr hsv hc hb hA
    rcases Nat.lt_or_ge t k with htk | htk
    ·have ct:=hr.cell htk
     have ft:=hr.frozen t
     have hst:=hsv t htk
     clear hr hsv hb hA
     obtain⟨z,hz⟩:∃z,z=h t:=⟨_,rfl⟩
     rw[←hz] at ct hst
     have HZ:=Lib.hid hz
     clear hz
     have t0:0≤(t:Int):=by omega
     have tk:(t:Int)<(k:Int):=by omega
     rcases Int.lt_or_le z 0 with hz0 | hz0
     ·have q1:decide (0≤z)=false:=by simp;omega
      go_wp2
      obtain⟨D,hD⟩:∃D,D=wr.heap.size:=⟨_,rfl⟩
      rw[←hD]
      refine zb3 fun W5 hW5=>?_
      have hQ:PQ w W5 N k (.slice a k cap) (.slice (some ⟨D,0,none⟩) 1 1) [t] (fun i=>if i=t then (p:Int) else h i):=by
       obtain⟨hr,hsv,hc,hb,-⟩:=HK.out
       have hlt:=hr.lt
       have hs:=za1 wr (N+1) t (.int .i64 (p:Int))
       have hal:=World.grownBy_alloc (wr.setCell ⟨N+1,t,none⟩ (.int .i64 (p:Int))) (.cells #[.int .i64 (t:Int)] 3) none
       rw[←hW5] at hal
       have hown:=World.ownsRow_lit (base:=N+2) (e:=3) (size:=1) (wr.setCell ⟨N+1,t,none⟩ (.int .i64 (p:Int))) #[.int .i64 (t:Int)] 1 (by simp;omega) (by decide) rfl
       rw[←hW5] at hown
       simp only[World.size_setCell,←hD] at hown
       refine⟨hown,za3 ((hr.set t _).congr (fun i _=>by by_cases e:i=t<;>simp[e])) hal (by simp),fun j hj=>?_,fun q hq=>?_,?_,hal.cell (hs.cell hc (by simp)) (by simp),(hb.setCell (by show N≤N+1;omega) _).grown hal (by simp;omega) (fun r e=>by cases e)⟩
       ·by_cases e:j=t
        ·simp only[e,if_true];omega
        ·simp only[e,if_false];exact hsv j hj
       ·simp at hq;omega
       ·have e:(fun i=>(if i=t then (p:Int) else h i)+1)=fun i=>if i=t then (p:Int)+1 else h i+1:=by
         funext i;split<;>rfl
        have:=hsv t htk
        have:=HZ.out
        rw[e,nzc_set (s:=fun i=>h i+1) htk (by omega) (by omega)]
        simp
      have hB:=HI.out.new t p h (by have:=HNN.out.2;omega) HK.out.2.2.2.2 (by rw[←HZ.out];exact hz0)
      have HQ:=Hd2 hQ hB
      clear hQ hB hW5 hD hc ct ft
      go_loopw [8,9] (fun lv i wr=>∃(qs:List Nat) (h:Nat→Int) (j:Nat),j≤qs.length∧i=.int .i64 j∧PQ w wr N k (.slice a k cap) lv qs h∧B t p qs h j) (fun _ i _=>k-(intOf i).toNat)
      case atStart=>exact⟨_,_,0,by omega,rfl,HQ.out⟩
      case round=>
       clear HQ
       obtain⟨qs,h2,j,hj,rfl,hP,hB⟩:=hrel
       obtain⟨la,lc,rfl⟩:=za8 hP.own
       have HP:=Hd2 hP hB
       have hlk:qs.length≤k:=Nat.le_trans hP.cnt (nzc_le _ _)
       rcases Nat.lt_or_ge j qs.length with hjl | hjl
       ·obtain⟨g,gc,q,hge,hqc,hqk,hjq⟩:=PQ.qcell2 hP hjl
        have hC:=HI.out.row t p qs h2 j hjl hB
        rw[show qs[j]=q by rw[List.getElem?_eq_getElem hjl] at hjq;simpa using hjq] at hC
        obtain⟨rfl,-,rfl⟩:la=some ⟨g,0,none⟩∧qs.length=qs.length∧lc=gc:=by simpa using hge
        obtain⟨_,b,off,_,hve,hga,hgc⟩:=HG.out.2
        simp only[Value.slice.injEq,true_and] at hve
        obtain⟨hva,hvc⟩:=hve
        obtain⟨hN2,hne2⟩:=HNN.out
        obtain⟨hab,hbB⟩:=hga (by omega)
        rw[hab] at hva
        subst hva
        have hrow:zb9 wr.drew b (off+q*20) G q:=by
         have:=ze5 (W:=w) hgc q (by omega)
         intro jj hjj
         rw[←this jj hjj]
         exact (za5 hP.bel).cell (p:=⟨b,off+q*20+jj,none⟩) (by exact hbB)
        have hrg:=zb9.range hrow
        have c0:wr.drew.cell? ⟨N,0,none⟩=some (.slice (some ⟨b,off,none⟩) k cap):=hP.c0
        replace hqc:wr.drew.cell? ⟨g,j,none⟩=some (.int .i64 (q:Int)):=hqc
        have j0:0≤(j:Int):=by omega
        have jl:(j:Int)<(qs.length:Int):=by omega
        have q0:0≤(q:Int):=by omega
        have qk:(q:Int)<(k:Int):=by omega
        have H5:=Hd3 hjq (HP.out.1.kept (zb0 _ none)) hC
        clear hP hB hC hjq hge hga hgc hvc hN2 hne2 hab hbB hrow
        go_wp2
        refine wp_region_still_lit (by kernel_rfl) (by kernel_rfl) ?_
        repeat (first|(refine zf6 rfl 88 (.tmp 53) rfl b (off+q*20) rfl (rowA G q) _ hrg Try.underlying88 rfl (by kernel_rfl) ?_)|(refine wpStill_step (fun K hK=>?_);go_simp;refine hK _ ?_;clear hK K))
        refine wpStill_nil ?_
        go_wp2
        clear hqc c0 hrg
        go_loopw [8,55] (fun lv i wr=>∃(qs:List Nat) (h:Nat→Int) (f:Nat),f≤4∧i=.int .i64 f∧qs[j]?=some q∧PQ w wr N k (.slice (some ⟨b,off,none⟩) k cap) lv qs h∧C t p qs h j q f) (fun _ i _=>4-(intOf i).toNat)
        case atStart=>exact⟨qs,h2,0,by omega,rfl,H5.out⟩
        case round=>
         clear H5
         obtain⟨qs',h3,f,hf,rfl,hjq,hP,hC⟩:=hrel
         have hjl':=(List.getElem?_eq_some_iff.1 hjq).1
         have HJ:=Hd2 hjq hC
         clear hjq hC
         obtain⟨la',lc',rfl⟩:=za8 hP.own
         have HP:=Lib.hid hP
         have HNE:=Lib.hid HNN.out.2
         have hlk':qs'.length≤k:=Nat.le_trans hP.cnt (nzc_le _ _)
         rcases Nat.lt_or_ge f 4 with hf4 | hf4
         ·have hix:=fun w=>ze2 G q f hf4 w
          unfold faceA at hix
          have hkk:4*q+f<4*G.n:=by have:=HNN.out.2;omega
          obtain⟨T,hT⟩:∃T,T=G.tet (4*q+f):=⟨_,rfl⟩
          have HTT:=Lib.hid hT
          rw[←hT] at hix
          rcases Int.lt_or_le T 0 with hT0 | hT0
          ·have q1:decide (0≤T)=false:=by simp;omega
           clear hP hT
           go_wp2
           exact⟨⟨qs',h3,f+1,by omega,by simp,HJ.out.1,HP.out.kept (World.grownBy_alloc _ _ _),HI.out.skip t p qs' h3 j q f (by have:=HNE.out;omega) hf4 HJ.out.2 (.inl (by rw[←HTT.out];exact hT0))⟩,by simp[intOf];omega⟩
          ·obtain⟨e1,e2,_⟩:=zc6 HG.out.1 hkk (by omega)
           obtain⟨x,hx⟩:∃x:Nat,T=(x:Int)∧x<k:=⟨G.T (4*q+f),by rw[hT,e1],by have:=HNN.out.2;omega⟩
           obtain⟨rfl,hxk⟩:=hx
           have hrc:=za4 (hP.row.cell hxk)
           have hrf:∀o,(wr.alloc o).frozen? ⟨N+1,x,none⟩=false:=fun o=>((World.grownBy_alloc wr o none).frozen_far ⟨N+1,x,none⟩ hP.row.lt (by simp)).trans (hP.row.frozen x)
           obtain⟨y,hy⟩:∃y,y=h3 x:=⟨_,rfl⟩
           rw[←hy] at hrc
           have HY:=Lib.hid hy
           have q1:decide (0≤(x:Int))=true:=by simp
           have x0:0≤(x:Int):=by omega
           have xk:(x:Int)<(k:Int):=by omega
           clear hP hT e1 e2 hy
           rcases Int.lt_or_le y 0 with hy0 | hy0
           ·have q2:decide (y<0)=true:=by simpa using hy0
            obtain⟨j0,hj0,hz30,hz31,hz32⟩:=info_parts info3
            have hlt1:=HP.out.row.lt
            have hfc:∀u,((wr.alloc (.cells #[.int .i64 (x:Int),.int .i64 (G.pm (4*q+f) 0),.int .i64 (G.pm (4*q+f) 1),.int .i64 (G.pm (4*q+f) 2),.int .i64 (G.pm (4*q+f) 3)] 87)).setCell ⟨N+1,x,none⟩ u).cell? ⟨wr.heap.size,0,none⟩=some (.int .i64 (x:Int)):=fun u=>
             (World.cell?_setCell_other (a:=⟨N+1,x,none⟩) (b:=⟨wr.heap.size,0,none⟩) _ _ (by simp<;>omega)).trans (World.cell?_alloc_at _ _ _ _ rfl)
            have hne:(Value.slice la' qs'.length lc').ownBlock=none∨(Value.slice la' qs'.length lc').ownBlock≠some (N+1):=.inr (fun e=>by have:=(HP.out.own.lt _ e).1;omega)
            have hown:=((HP.out.own.kept (za1 wr (N+1) x (.int .i64 (p:Int))) hne).alloc (.cells #[.int .i64 (x:Int),.int .i64 (G.pm (4*q+f) 0),.int .i64 (G.pm (4*q+f) 1),.int .i64 (G.pm (4*q+f) 2),.int .i64 (G.pm (4*q+f) 3)] 87)).alloc (.cells #[.int .i64 (x:Int)] 3)
            have hnews:=World.news_of_block (cs:=#[.int .i64 (x:Int)]) (MapKept.heap_alloc ((wr.setCell ⟨N+1,x,none⟩ (.int .i64 (p:Int))).alloc (.cells #[.int .i64 (x:Int),.int .i64 (G.pm (4*q+f) 0),.int .i64 (G.pm (4*q+f) 1),.int .i64 (G.pm (4*q+f) 2),.int .i64 (G.pm (4*q+f) 3)] 87)) (.cells #[.int .i64 (x:Int)] 3)).1
            simp only[World.size_setCell,World.size_alloc] at hnews
            have HA:=Hd3 True.intro hown hnews
            clear hown hnews hne
            generalize G.pm (4*q+f) 0=g0 at *
            generalize G.pm (4*q+f) 1=g1 at *
            generalize G.pm (4*q+f) 2=g2 at *
            generalize G.pm (4*q+f) 3=g3 at *
            go_wp2_with (at_builtin;refine (wpList_append_lies _ rfl (.tmp 74) (.tmp 77) 35 rfl (N+2) 3 j0 _ 1 8 und35 hj0 hz30 hz31 hz32 rfl (by omega) (.slice la' qs'.length lc') qs'.length _ rfl HA.out.2.1 ⟨wr.heap.size+1,0,none⟩ 1 1 [.int .i64 (x:Int)] rfl rfl HA.out.2.2 (by simp[Value.oneCell']) (by omega) (by unfold maxLen;omega) (by omega) (by simp;omega) (wr.heap.size+1+1) (by simp) ?_);intro g9 c9 w9 r1 r2 r3 r4;have HR:=Hd2 r1 r2;clear r1 r2 r3 r4)
            exact⟨⟨qs'++[x],_,f+1,by omega,by simp,by rw[List.getElem?_append_left hjl'];exact HJ.out.1,HP.out.push hxk (by rw[←HY.out];exact hy0) (by omega:(0:Int)≤(p:Int)) (za2 (World.grownBy_alloc _ _ _) (World.grownBy_alloc _ _ _)) HR.out.1 HR.out.2,HI.out.push t p qs' h3 j q f x (by have:=HNE.out;omega) hf4 HJ.out.2 HTT.out.symm (by have:=HNE.out;omega) (by rw[←HY.out];exact hy0)⟩,by simp[intOf];omega⟩
           ·have q2:decide (y<0)=false:=by simp;omega
            go_wp2
            exact⟨⟨qs',h3,f+1,by omega,by simp,HJ.out.1,HP.out.kept (World.grownBy_alloc _ _ _),HI.out.skip t p qs' h3 j q f (by have:=HNE.out;omega) hf4 HJ.out.2 (.inr ⟨x,HTT.out.symm,by have:=HNE.out;omega,by rw[←HY.out];exact hy0⟩)⟩,by simp[intOf];omega⟩
         ·obtain rfl:f=4:=by omega
          clear hP
          go_wp2
          exact⟨⟨qs',h3,j+1,by omega,by simp,HP.out,HI.out.next t p qs' h3 j q HJ.out.2⟩,by simp[intOf];omega⟩
       ·obtain rfl:j=qs.length:=by omega
        clear hP hB
        go_wp2
        exact⟨⟨t+1,p+1,_,by omega,by omega,by simp,by simp,HI.out.done t p qs h2 (by have:=HNN.out.2;omega) HP.out.2,HP.out.1.row,HP.out.1.sv,HP.out.1.c0,HP.out.1.bel⟩,by simp[intOf];omega⟩
     ·have q1:decide (0≤z)=true:=by simp;omega
      go_wp2
      exact⟨⟨t+1,p,h,by omega,by omega,by simp,rfl,HI.out.met t p h (by have:=HNN.out.2;omega) HK.out.2.2.2.2 (by rw[←HZ.out];exact hz0),HK.out.1,HK.out.2.1,HK.out.2.2.1,HK.out.2.2.2.1⟩,by simp[intOf];omega⟩
    ·obtain rfl:t=k:=by omega
     clear hr hsv hc hb hA
     go_wp2
     go_ret2
     exact⟨N+1,p,h,rfl,HK.out.1,HK.out.2.2.2.2,HK.out.2.2.2.1⟩
theorem PParts_walk (G:Gl)(hok:za9 G=true)(v:Value)(w:World)(hG:GlAt w.heap.size w v G) :
  Calls Try.prog 67 #[.agg #[v]] w fun e w'=>∃(d:Nat) (h:Nat→Int),e=.returned (.tuple #[.slice (some ⟨d,0,none⟩) G.n G.n,.int .i64 0])∧zb7 w' d G.n h∧(∀u,u<G.n→h u=ptN G u)∧Below w.heap.size w w':=by
 have HG:=Lib.hid hG
 obtain⟨a,cap,rfl⟩:∃a cap,v=.slice a G.n cap:=by obtain⟨a,_,_,cap,e,_⟩:=hG;exact⟨a,cap,e⟩
 clear hG
 go_enter Try.func67,Try.ntmps67
 go_wp2_with fail
 refine zb4 fun W0 hW=>?_
 have hb:Below w.heap.size w W0∧W0.cell? ⟨w.heap.size,0,none⟩=some (.slice a G.n cap):=by rw[hW];exact⟨by (repeat' (first | assumption | exact Below.refl _ _ | refine za7 ?_ (by assumption) | refine zb2 ?_ _ | refine za5 ?_ | refine zb1 ?_ (by simp<;>omega) _)),by simp[go_sem]⟩
 clear hW
 refine (Check_walk G (.slice a G.n cap) W0 ((HG.out.below hb.1).mono hb.1.size) (by have:=hok;simp[za9] at this;omega)).mono ?_
 rintro e W1 ⟨rfl,hb1⟩
 have x1:=(hb1.cell (p:=⟨w.heap.size,0,none⟩) (za0 hb.2)).trans hb.2
 have hbw:=hb.1.trans (hb1.mono hb.1.size)
 have HB:=Lib.hid hbw
 clear hb hb1 hbw
 have e7:zd6 G=0:=by simp[zd6,hok]
 rw[e7]
 have h109:=pparts_walk G hok (parts_inv hok) (.slice a G.n cap) W1 ((HG.out.below HB.out).mono HB.out.size)
 have H109:=Lib.hid h109
 have HK:=Lib.hid hok
 clear hok e7 h109
 go_wp2_with fail
 refine H109.out.mono ?_
 rintro e W2 ⟨d,p,h,rfl,hr,hA,hb2⟩
 have hh:∀u,u<G.n→h u=ptN G u:=fun u hu=>by
  rw[hA.2 u hu,if_pos (.inl (by have:=pt_le HK.out hu;omega))]
 have H2:=Hd3 hr hh hb2
 clear hr hb2 hA hh
 go_wp2
 go_ret2
 exact⟨d,h,rfl,H2.out.1,H2.out.2.1,HB.out.trans (H2.out.2.2.mono HB.out.size)⟩
end
section
open Go.RowKit Go.Shelf Go.Maps
structure IB (w W:World)(N:Nat)(ga:Option Addr)(gn gc:Nat):Prop where
 bel:Below N w W
 c0:W.cell? ⟨N,0,none⟩=some (.slice ga gn gc)
 r0:W.cell? ⟨N+1,0,none⟩=some (.int .i64 0)
 r1:W.cell? ⟨N+1,1,none⟩=some (.slice none 0 0)
 f0:W.frozen? ⟨N+1,0,none⟩=false
 f1:W.frozen? ⟨N+1,1,none⟩=false
theorem IB.lt {w W:World}{N:Nat}{ga:Option Addr}{gn gc:Nat}(h:IB w W N ga gn gc):N+2≤W.heap.size:=by
 have:=za0 h.r0;simp only at this;omega
theorem IB.below {w W W':World}{N:Nat}{ga:Option Addr}{gn gc:Nat}(h:IB w W N ga gn gc)(hb:Below W.heap.size W W'):IB w W' N ga gn gc:=by
 have hg:=za6 hb (Nat.le_refl _) none
 have hN:=h.lt
 exact⟨h.bel.trans (hb.mono (by omega)),hg.cell h.c0 (by simp),hg.cell h.r0 (by simp),hg.cell h.r1 (by simp),(hg.frozen_far ⟨N+1,0,none⟩ (za0 h.r0) (by simp)).trans h.f0,(hg.frozen_far ⟨N+1,1,none⟩ (za0 h.r1) (by simp)).trans h.f1⟩
section
variable (G:Gl)(v:Value)(S:Int)(iv:Value)(ni:Nat)(li:Nat→Nat)(fi:Nat→Nat→Int)(w:World)(hG:GlAt w.heap.size w v G)(hm:G.n≤9223372036854775807)(hiv:LLc w.heap.size w iv ni li fi)(hli:∀k,k<ni→li k<4611686018427387904)(hni:ni<4611686018427387904)
include hG hm hiv hli hni
theorem rimage_walk:Calls Try.prog 36 #[.agg #[v],.int .i64 S,iv] w fun e w'=>Below w.heap.size w w'∧ImgAns G S ni li fi e w':=by
 have HG:=Hd3 hG hiv hli
 obtain⟨ga,gc,rfl⟩:∃a cap,v=.slice a G.n cap:=by obtain⟨a,_,_,cap,e,_⟩:=hG;exact⟨a,cap,e⟩
 obtain⟨ia,ic,rfl⟩:∃a cap,iv=.slice a ni cap:=by obtain⟨a,_,_,cap,e,_⟩:=hiv;exact⟨a,cap,e⟩
 clear hG hiv hli
 obtain⟨N,hN⟩:∃N,N=w.heap.size:=⟨_,rfl⟩
 have HN:=Lib.hid hN
 go_enter Try.func36,Try.ntmps36
 go_wp2_with fail
 rw[←hN]
 refine zb4 fun W0 hW=>?_
 have h0:IB w W0 N ga G.n gc:=by
  rw[hW,hN];exact⟨by (repeat' (first | assumption | exact Below.refl _ _ | refine za7 ?_ (by assumption) | refine zb2 ?_ _ | refine za5 ?_ | refine zb1 ?_ (by simp<;>omega) _)),by simp[go_sem],by simp[go_sem],by simp[go_sem],by simp[go_sem],by simp[go_sem]⟩
 have at0:=fun W (h:IB w W N ga G.n gc)=>
  have hb:Below w.heap.size w W:=by rw[←HN.out];exact h.bel
  And.intro ((HG.out.1.below hb).mono hb.size) ((HG.out.2.1.below hb).mono hb.size)
 have HAT:=Lib.hid at0
 clear hW hN at0
  -- an error is handed back
 have err:∀c:Int,c≠0→imgI G S ni li fi=c→∀W,IB w W N ga G.n gc→∀x y,Below w.heap.size w ((W.setCell ⟨N+1,0,none⟩ x).setCell ⟨N+1,1,none⟩ y)∧ImgAns G S ni li fi (.returned (.tuple #[.agg #[.int .i64 0,.slice none 0 0],.int .i64 c])) ((W.setCell ⟨N+1,0,none⟩ x).setCell ⟨N+1,1,none⟩ y):=fun c hc he W h x y=>
  ⟨by rw[←HN.out];exact (h.bel.setCell (by show N≤N+1;omega) _).setCell (by show N≤N+1;omega) _,0,.slice none 0 0,by rw[he],.inl ⟨by rw[he];exact hc,rfl,rfl⟩⟩
 have HERR:=Lib.hid err
 clear err
 refine (rasked_walk G W0 _ (HAT.out _ h0).1 hm).mono ?_
 rintro e W1 ⟨rfl,hb1⟩
 have h1:=h0.below hb1
 clear h0 hb1
 rcases Classical.em (¬askI G=0) with hz | hz
 ·obtain⟨c,hc⟩:∃c,c=askI G:=⟨_,rfl⟩
  rw[←hc] at hz ⊢
  have q1:(c !=0)=true:=by simpa using hz
  have hcm:imgI G S ni li fi=c:=by unfold imgI;rw[if_neg (by rw[←hc];exact hz),hc]
  have HX:=Lib.hid (HERR.out c hz hcm W1 h1)
  obtain⟨-,k0,y0,y1,z0,z1⟩:=h1
  clear hz hc hcm k0
  go_wp2
  exact bodyPost_ret (v:=.tuple #[.agg #[.int .i64 0,.slice none 0 0],.int .i64 c]) (by simp[results,Try.results36,go_sem, *]) rfl (HX.out _ _)
 have hz:=Classical.not_not.1 hz
 rw[hz]
 have hok:=(askI_zero.1 hz).1
 have HZ:=Lib.hid hz
 clear hz
 have k0:=h1.c0
 have H1:=Lib.hid h1
 have h65:=rone_walk G hok _ W1 (HAT.out _ h1).1
 have HOK:=Lib.hid hok
 clear h1
 go_wp2_with fail
 refine h65.mono ?_
 clear h65 hok
 rintro e W2 ⟨rfl,hb2⟩
 have h2:=H1.out.below hb2
 clear H1 hb2 k0
 rcases Classical.em (¬(oneB G=true∧1≤S∧S≤24)) with h24 | h24
 ·have hcm:imgI G S ni li fi=1:=by unfold imgI;rw[if_pos HZ.out,if_neg h24]
  have HX:=Lib.hid (HERR.out 1 (by omega) hcm W2 h2)
  obtain⟨-,k0,y0,y1,z0,z1⟩:=h2
  have H24:=Lib.hid h24
  clear h24 k0 hcm
  obtain⟨ob,hob⟩:∃b,b=oneB G:=⟨_,rfl⟩
  have HOB:=Lib.hid hob
  rw[←hob]
  clear hob
  cases ob with
  | false=>
   go_wp2
   exact bodyPost_ret (v:=.tuple #[.agg #[.int .i64 0,.slice none 0 0],.int .i64 1]) (by simp[results,Try.results36,go_sem, *]) rfl (HX.out _ _)
  | true=>
   rcases Int.lt_or_le S 1 with s1 | s1
   ·have q1:decide (S<1)=true:=by simpa using s1
    go_wp2
    exact bodyPost_ret (v:=.tuple #[.agg #[.int .i64 0,.slice none 0 0],.int .i64 1]) (by simp[results,Try.results36,go_sem, *]) rfl (HX.out _ _)
   ·have q1:decide (S<1)=false:=by simp;omega
    have q2:decide (24<S)=true:=by
     rw[decide_eq_true_eq]
     rcases Int.lt_or_le 24 S with s2 | s2
     ·exact s2
     ·exact absurd ⟨HOB.out.symm,s1,s2⟩ H24.out
    go_wp2
    exact bodyPost_ret (v:=.tuple #[.agg #[.int .i64 0,.slice none 0 0],.int .i64 1]) (by simp[results,Try.results36,go_sem, *]) rfl (HX.out _ _)
 have h24:=Classical.not_not.1 h24
 have H24:=Lib.hid h24
 obtain⟨ho,s1,s24⟩:=h24
 rw[ho]
 clear ho
 obtain⟨s,rfl⟩:∃s:Nat,S=s:=⟨S.toNat,by omega⟩
 have q1:decide ((s:Int)<1)=false:=by simp;omega
 have q2:decide ((24:Int)<(s:Int))=false:=by simp;omega
 have k0:=h2.c0
 have h72:=gens_walk G HOK.out _ W2 (HAT.out _ h2).1
 have hn:=zg5 HOK.out
 obtain⟨gn,hgn⟩:∃gn,gn=gnN G (4*G.n):=⟨_,rfl⟩
 have hgb:=gnN_le G (4*G.n)
 rw[←hgn] at h72 hgb
 have HGN:=Lib.hid hgn
 have H2:=Lib.hid h2
 clear h2 hgn
 go_wp2_with fail
 refine h72.mono ?_
 clear h72
 rintro e W3 ⟨o,rfl,hrow,ho2,hb3⟩
 have h3:=H2.out.below hb3
 have HO:=Lib.hid hrow
 have H3:=Lib.hid h3
 clear hrow ho2 hb3 H2 k0 h3
 rcases Classical.em (¬ni=gn) with hng | hng
 ·have q3:((ni:Int) !=(gn:Int))=true:=by simp;omega
  have hcm:imgI G s ni li fi=1:=by unfold imgI;rw[if_pos HZ.out,if_pos H24.out,if_neg (fun h=>hng (h.1.trans HGN.out.symm))]
  have HX:=Lib.hid (HERR.out 1 (by omega) hcm W3 H3.out)
  obtain⟨-,k0,y0,y1,z0,z1⟩:=H3.out
  clear hng k0 hcm
  go_wp2
  exact bodyPost_ret (v:=.tuple #[.agg #[.int .i64 0,.slice none 0 0],.int .i64 1]) (by simp[results,Try.results36,go_sem, *]) rfl (HX.out _ _)
 have hng:=Classical.not_not.1 hng
 have q3:((ni:Int) !=(gn:Int))=false:=by simp;omega
 have HNG:=Lib.hid (hng.trans HGN.out)
 clear hng
 have rowk:∀k,k<ni→∃pb po ra rb ro rc,ia=some ⟨pb,po,none⟩∧W3.cell? ⟨pb,po+k,none⟩=some (.slice ra (li k) rc)∧li k≤rc∧(0<li k→ra=some ⟨rb,ro,none⟩∧rb<W3.heap.size)∧∀i,i<li k→W3.cell? ⟨rb,ro+i,none⟩=some (.int .i64 (fi k i)):=fun k hk=>by
  obtain⟨a,pb,po,cap,e,h1,h2⟩:=(HAT.out _ H3.out).2
  obtain⟨rfl,rfl⟩:ia=a∧ic=cap:=by simpa using e
  obtain⟨rfl,hpB⟩:=h1 (by omega)
  obtain⟨ra,rb,ro,rc,r1,r2,r3,r4⟩:=h2 k hk
  exact⟨pb,po,ra,rb,ro,rc,rfl,r1,r2,r3,r4⟩
 have HRW:=Lib.hid rowk
 clear rowk
 go_wp2
 go_loopw [49] (fun i wz=>∃k:Nat,k≤ni∧i=.int .i64 k∧(∀m,m<k→permB (li m) (fi m) s=true)∧wz=W3) (fun i _=>ni-(intOf i).toNat)
 case atStart=>exact⟨0,by omega,rfl,fun m hm=>by omega,rfl⟩
 case round=>
  obtain⟨k,hk,rfl,hall,rfl⟩:=hrel
  have HA:=Lib.hid hall
  clear hall
  rcases Nat.lt_or_ge k ni with hkn | hkn
  ·obtain⟨pb,po,ra,rb,ro,rc,rfl,r1,r2,r4,r5⟩:=HRW.out k hkn
   have hSI:SI wr.heap.size wr (.slice ra (li k) rc) (li k) (fi k):=⟨ra,rb,ro,rc,rfl,r4,r5⟩
   have hl:=HG.out.2.2 k hkn
   have k0:0≤(k:Int):=by omega
   have kn:(k:Int)<(ni:Int):=by omega
   have h73:=rperm_walk (li k) (fi k) s hl (by omega) wr.heap.size wr ra rc r2 hSI
   obtain⟨β,hβ⟩:∃β,β=permB (li k) (fi k) s:=⟨_,rfl⟩
   rw[←hβ] at h73
   have H73:=Lib.hid h73
   obtain⟨l,hle⟩:∃l,l=li k:=⟨_,rfl⟩
   rw[←hle] at r1 H73
   clear h73 hSI r2 r4 r5 hl hle
   cases β with
   | false=>
    have hcm:imgI G s ni li fi=1:=by
     unfold imgI;rw[if_pos HZ.out,if_pos H24.out,if_neg (fun h=>by have:=h.2 k hkn;rw[←hβ] at this;cases this)]
    have HX:=Lib.hid (HERR.out 1 (by omega) hcm wr H3.out)
    obtain⟨-,-,y0,y1,z0,z1⟩:=H3.out
    clear hβ hcm
    go_wp2_with (go_at_call 73;(with_reducible refine H73.out.mono ?_);rintro e w5 ⟨rfl,rfl⟩)
    exact bodyPost_ret (v:=.tuple #[.agg #[.int .i64 0,.slice none 0 0],.int .i64 1]) (by simp[results,Try.results36,go_sem, *]) rfl (HX.out _ _)
   | true=>
    have HT2:=Lib.hid hβ.symm
    clear hβ
    go_wp2_with (go_at_call 73;(with_reducible refine H73.out.mono ?_);rintro e w5 ⟨rfl,rfl⟩)
    exact⟨⟨k+1,by omega,by simp,fun m hm=>by
     rcases Nat.lt_or_ge m k with h | h
     ·exact HA.out m h
     ·rw[show m=k by omega];exact HT2.out,trivial⟩,by simp[intOf];omega⟩
  ·obtain rfl:k=ni:=by omega
   obtain⟨nn,hnn⟩:∃nn,nn=k:=⟨_,rfl⟩
   subst hnn
   obtain⟨p,hp⟩:∃p,p=s*G.n:=⟨_,rfl⟩
   have hpb:p≤24000:=by
    have:s*G.n≤24*1000:=Nat.mul_le_mul (by omega) hn
    omega
   have hpi:(s:Int)*(G.n:Int)=(p:Int):=by rw[hp];push_cast;rfl
   have qp:IntKind.i64.wrap ((s:Int)*(G.n:Int))=(p:Int):=by rw[hpi];exact IntWalk.i64_in _ (by omega)
   have HP:=Lib.hid hpi
   have k0:=H3.out.c0
   clear hp hpi
   rcases Nat.lt_or_ge 1000 p with s3 | s3
   ·have q4:decide ((1000:Int)<(p:Int))=true:=by simp;omega
    have hcm:imgI G s nn li fi=2:=by
     unfold imgI;rw[if_pos HZ.out,if_pos H24.out,if_pos ⟨HNG.out,HA.out⟩,if_neg (by rw[HP.out];omega)]
    have HX:=Lib.hid (HERR.out 2 (by omega) hcm wr H3.out)
    obtain⟨-,-,y0,y1,z0,z1⟩:=H3.out
    clear hcm
    go_wp2
    exact bodyPost_ret (v:=.tuple #[.agg #[.int .i64 0,.slice none 0 0],.int .i64 2]) (by simp[results,Try.results36,go_sem, *]) rfl (HX.out _ _)
   have q4:decide ((1000:Int)<(p:Int))=false:=by simp;omega
   have h53:=rskeleton_walk G _ wr (HAT.out _ H3.out).1 HOK.out
   obtain⟨V,hV⟩:∃V,V=wr:=⟨_,rfl⟩
   subst hV
   have H53:=Lib.hid h53
   clear h53
   go_wp2_with fail
   refine H53.out.mono ?_
   rintro e W4 ⟨sv,rfl,hsk,hb4⟩
   obtain⟨va,vc,ea,ec,ta,tc,da,dn,dc,ra,rn,rc,la,ln,lc,rfl,hw4⟩:=hsk.skw
   have h4:=H3.out.below hb4
   have hrow4:=za3 HO.out (za6 hb4 (Nat.le_refl _) none) (by simp)
   have k4:=h4.c0
   have k4a:=za4 k4
   have k4b:=fun o=>za4 (k4a o)
   have H4:=Hd4 h4 hw4 hrow4 hb4
   clear hsk hw4 h4 hrow4 hb4 H53 k0
   go_wp2
   refine zb3 fun W5 hW5=>?_
   obtain⟨WB,hWB⟩:∃WB,WB=W4.alloc (.cells #[.slice va G.n vc,.slice ea G.n ec,.slice ta G.n tc,.slice da dn dc,.slice ra rn rc,.slice la ln lc] 54):=⟨_,rfl⟩
   obtain⟨D1,hD1⟩:∃D1,D1=W4.heap.size:=⟨_,rfl⟩
   rw[←hD1]
   have hbB:Below W4.heap.size W4 WB:=by rw[hWB];exact (Below.refl _ _).alloc (Nat.le_refl _) _
   have hzB:WB.heap.size=D1+1:=by rw[hWB,hD1];simp
   have hB:IB w WB N ga G.n gc∧SB WB D1 va G.n vc ea G.n ec ta G.n tc da dn dc ra rn rc la ln lc∧SKW V.heap.size WB.heap.size WB ta G∧WB.rowIs o 84 (4*G.n) (fun k=>.int .i64 (ltrI G k))∧Below V.heap.size V WB∧WB.heap.size=D1+1:=
    ⟨H4.out.1.below hbB,by rw[hWB];exact SB.made hD1,H4.out.2.1.below hbB,za3 H4.out.2.2.1 (za6 hbB (Nat.le_refl _) none) (by simp),H4.out.2.2.2.trans (hbB.mono H4.out.2.2.2.size),hzB⟩
   have hI:IW WB W5 (D1+1) s G fi 0:=by
    refine⟨idF,id,.slice none 0 0,[],fun j hj=>absurd hj (by simp[clsN,cnt]),?_⟩
    have e5:W5=WB.alloc (.cells #[.int .i64 (s:Int),.slice none 0 0] 28):=by rw[hW5,hWB]
    rw[e5]
    exact⟨World.ownsRow_nil _ _ _ _,fun j hj=>absurd hj (Nat.not_lt_zero j),fun i j hi=>absurd hi (Nat.not_lt_zero i),by rw[World.cell?_alloc_at _ _ _ _ hzB.symm];rfl,by rw[World.cell?_alloc_at _ _ _ _ hzB.symm];rfl,World.frozen?_alloc_at _ _ _ _ hzB.symm,(Below.refl _ _).alloc (by omega) _⟩
   have HB:=Lib.hid hB
   have HI:=Lib.hid hI
   clear hW5 hWB hD1 hbB hzB hB hI H4 k4 k4a k4b
   go_loopw [73] (fun i wz=>∃t:Nat,t≤G.n∧i=.int .i64 t∧IW WB wz (D1+1) s G fi (4*t)) (fun i _=>G.n-(intOf i).toNat)
   case atStart=>exact⟨0,by omega,rfl,HI.out⟩
   case round=>
    clear HI
    obtain⟨t,ht,rfl,hI⟩:=hrel
    have HI:=Lib.hid hI
    clear hI
    rcases Nat.lt_or_ge t G.n with htn | htn
    ·have t0:0≤(t:Int):=by omega
     have tn:(t:Int)<(G.n:Int):=by omega
     go_wp2
     go_loopw [16] (fun i wz=>∃f:Nat,f≤4∧i=.int .i64 f∧IW WB wz (D1+1) s G fi (4*t+f)) (fun i _=>4-(intOf i).toNat)
     case atStart=>exact⟨0,by omega,rfl,HI.out⟩
     case round=>
      clear HI
      obtain⟨f,hf,rfl,hI⟩:=hrel
      have HI:=Lib.hid hI
      rcases Nat.lt_or_ge f 4 with hf4 | hf4
      ·have hkk:4*t+f<4*G.n:=by omega
       obtain⟨F,ds,uv,xs,hF,hZ⟩:=hI
       obtain⟨ua,uc,rfl⟩:=za8 hZ.own
       have later:=fun W (hb:Below (D1+1) WB W)=>
        have hb':Below WB.heap.size WB W:=by rw[HB.out.2.2.2.2.2];exact hb
        And.intro (HB.out.1.below hb') (And.intro (HB.out.2.1.bl hb') (And.intro (HB.out.2.2.1.below hb') (za3 HB.out.2.2.2.1 (za6 hb' (Nat.le_refl _) none) (by simp))))
       have HLT:=Lib.hid later
       obtain⟨-,hsb,⟨b,hta,htri⟩,-⟩:=later wr hZ.bel
       obtain⟨rfl,-,-⟩:=hta (by omega)
       have d2:=hsb.d2
       have cx:=htri (4*t+f) hkk
       have d1:=hZ.d1
       have hcf:=clsN_first HOK.out hkk
       have hcb:=zg7 (zb5 G).r4 (4*t+f)
       obtain⟨x,hx⟩:∃x,x=fN G (4*t+f):=⟨_,rfl⟩
       obtain⟨c,hc⟩:∃c,c=clsN G (4*t+f):=⟨_,rfl⟩
       rw[show cnt (zb5 G).r4 (4*t+f)=c from hc.symm] at hcb
       rw[←hx] at cx
       rw[←hx,←hc] at hcf
       rw[←hc] at hZ d1
       rw[show 4*t+f=t*4+f by omega] at cx
       have HC:=Lib.hid hc
       have HZc:=Hd2 hF hZ
       have f0:0≤(f:Int):=by omega
       have f4:(f:Int)<4:=by omega
       have d1':wr.drew.cell? ⟨D1+1,1,none⟩=some (.slice ua c uc):=d1
       have d2':wr.drew.cell? ⟨D1,2,none⟩=some (.slice (some ⟨b,0,none⟩) G.n tc):=d2
       have cx':wr.drew.cell? ⟨b,t*4+f,none⟩=some (.int .i64 (x:Int)):=cx
       clear later hsb htri hta hx hc hF hZ
       by_cases hf1:isF G (4*t+f)
       ·have hxc:=hcf.2 hf1
        subst hxc
        have q5:((x:Int) !=(x:Int))=false:=by simp
        have hmk:=run_make_row' (P:=Try.prog) 35 3 (.int .i64 0) 8 und35 info3 rfl .i64 .i64 s (by omega) (by omega)
        have HF1:=Lib.hid hf1
        clear hcf hf1
        go_wp2
        refine wp_region_still_lit (by kernel_rfl) (by kernel_rfl) ?_
        repeat (refine wpStill_step (fun K hK=>?_);go_simp;refine hK _ ?_;clear hK K)
        refine wpStill_nil ?_
        clear d1 d2 cx d1' d2' cx'
        go_wp2
        refine zb3 fun W6 hW=>?_
        obtain⟨P,hP⟩:∃P,P=wr.heap.size:=⟨_,rfl⟩
        rw[←hP]
        have h6:Below wr.heap.size wr W6∧zb7 W6 P s (fun y=>if y<0 then imgF G fi x y else 0):=by
         rw[hW,hP]
         exact⟨by (repeat' (first | assumption | exact Below.refl _ _ | refine za7 ?_ (by assumption) | refine zb2 ?_ _ | refine za5 ?_ | refine zb1 ?_ (by simp<;>omega) _)),(za3 (World.rowIs_made wr (.int .i64 0) s 3) (zb0 _ none) (by simp)).congr (fun i _=>by simp)⟩
        have H6:=Lib.hid h6
        have HP6:=Lib.hid hP
        clear h6 hW hP hmk
        obtain⟨V6,hV6⟩:∃V6,V6=wr:=⟨_,rfl⟩
        subst hV6
        go_loopw [95] (fun i wz=>∃k:Nat,k≤s∧i=.int .i64 k∧Below V6.heap.size V6 wz∧zb7 wz P s (fun y=>if y<k then imgF G fi x y else 0)) (fun i _=>s-(intOf i).toNat)
        case atStart=>exact⟨0,by omega,rfl,H6.out⟩
        case round=>
         clear H6
         obtain⟨k,hk,rfl,hb,hrow⟩:=hrel
         have HK:=Hd2 hb hrow
         rcases Nat.lt_or_ge k s with hks | hks
         ·have xp:=hrow.cell hks
          have fp':=hrow.frozen k
          have hVb:Below (D1+1) WB V6:=HZc.out.2.bel
          have hlt6:=(HLT.out V6 hVb).2.2.2
          have hlo:=hlt6.lt
          have ne:o≠P:=by rw[HP6.out];omega
          have hst:=fun (b' o':Nat) (y:Value) (hb':b'≠P) (h:wr.cell? ⟨b',o',none⟩=some y)=>(World.cell?_setCell_other (a:=⟨P,k,none⟩) (b:=⟨b',o',none⟩) wr (.int .i64 (k:Int)) (fun e=>hb' (congrArg Addr.block e).symm)).trans h
          have hz:=hst o (t*4+f) _ ne (za3 hlt6 (za6 hb (Nat.le_refl _) none) (by simp) |>.cell (i:=t*4+f) (by omega))
          obtain⟨z,hze⟩:∃z,z=ltrI G (t*4+f):=⟨_,rfl⟩
          rw[←hze] at hz
          have hze':z=ltrI G (4*t+f):=by rw[hze,show t*4+f=4*t+f by omega]
          have hnum:=img_num HOK.out (fi:=fi) hkk HF1.out k
          rw[←HC.out,←hze'] at hnum
          have k0':0≤(k:Int):=by omega
          have ks:(k:Int)<(s:Int):=by omega
          have HNM:=Lib.hid hnum
          rcases Int.lt_or_le 0 z with hz0 | hz0
          ·have qz:decide (0<z)=true:=by simpa using hz0
           obtain⟨hg,hzv⟩:=ltr_pos (G:=G) (k:=4*t+f) (by rw[←hze'];exact hz0)
           obtain⟨g,hgd⟩:∃g,g=gnN G (4*t+f):=⟨_,rfl⟩
           have hgn':=gnN_lt hg hkk
           rw[←HNG.out,←hgd] at hgn'
           obtain⟨pb,po,ra',rb',ro',rc',rfl,r1,r2,r4,r5⟩:=HRW.out g hgn'
           have hlg:li g=s:=by have:=(zf1 (HA.out g hgn')).1;omega
           rw[hlg] at r1 r4 r5
           obtain⟨rfl,hrB⟩:=r4 (by omega)
           have hbV:Below V.heap.size V wr:=HB.out.2.2.2.2.1.trans ((hVb.trans (hb.mono (by have:=hVb.size;have:=HB.out.2.2.2.2.2;omega))).mono (by have:=HB.out.2.2.2.2.1.size;have:=HB.out.2.2.2.2.2;omega))
           have hVP:V.heap.size≤P:=by rw[HP6.out];have:=HB.out.2.2.2.2.1.size;have:=hVb.size;omega
           have hpbV:pb<V.heap.size:=za0 r1
           have c1:=hst pb (po+g) _ (by omega) ((hbV.cell (p:=⟨pb,po+g,none⟩) hpbV).trans r1)
           have c2:=hst rb' (ro'+k) _ (by omega) ((hbV.cell (p:=⟨rb',ro'+k,none⟩) hrB).trans (r5 k hks))
           have xp2:(wr.setCell ⟨P,k,none⟩ (.int .i64 (k:Int))).cell? ⟨P,k,none⟩=some (.int .i64 (k:Int)):=World.cell?_setCell_same _ _ _ xp
           have fp2:(wr.setCell ⟨P,k,none⟩ (.int .i64 (k:Int))).frozen? ⟨P,k,none⟩=false:=by rw[World.frozen?_setCell];exact fp'
           have hgb2:g≤4000:=by have:=gnN_le G (4*t+f);omega
           have hzg:z=(g:Int)+1:=by rw[hze',hzv,hgd]
           have wz1:IntKind.i64.wrap (z-1)=(g:Int):=by rw[hzg,IntWalk.i64_in _ (by omega)];omega
           have g0:0≤(g:Int):=by omega
           have gk:(g:Int)<(nn:Int):=by omega
           rw[if_pos hz0,←hgd] at hnum
           have HNM2:=Lib.hid hnum
           obtain⟨y,hy⟩:∃y,y=fi g k:=⟨_,rfl⟩
           rw[←hy] at c2
           have HY:=Lib.hid hy
           clear hst hlt6 hlo ne hze hze' hnum hb hrow hVb hg hzv hgd hgn' r1 r2 r4 r5 hlg hrB hbV hVP hpbV hgb2 hzg hy
           go_wp2
           refine⟨⟨k+1,by omega,by simp,(HK.out.1.setCell (by show V6.heap.size≤P;rw[HP6.out];exact Nat.le_refl _) _).setCell (by show V6.heap.size≤P;rw[HP6.out];exact Nat.le_refl _) _,((HK.out.2.set k (.int .i64 (k:Int))).set k (.int .i64 y)).congr (fun i _=>?_)⟩,by simp[intOf];omega⟩
           by_cases e:i=k
           ·subst e;simp[HNM2.out,HY.out]
           ·have:i<k+1↔i<k:=by omega
            simp[e,this]
          ·have qz:decide (0<z)=false:=by simp;omega
           rw[if_neg (by omega)] at hnum
           have HNM2:=Lib.hid hnum
           clear hst hlt6 hlo ne hze hze' hnum hb hrow hVb
           go_wp2
           refine⟨⟨k+1,by omega,by simp,HK.out.1.setCell (by show V6.heap.size≤P;rw[HP6.out];exact Nat.le_refl _) _,(HK.out.2.set k (.int .i64 (k:Int))).congr (fun i _=>?_)⟩,by simp[intOf];omega⟩
           by_cases e:i=k
           ·subst e;simp[HNM2.out]
           ·have:i<k+1↔i<k:=by omega
            simp[e,this]
         ·obtain rfl:k=s:=by omega
          have hg6:=za6 hb (Nat.le_refl _) none
          have hZw:=HZc.out.2.kept hg6
          have d1:=hZw.d1
          have d1a:=za4 d1
          have f1a:∀o,(wr.alloc o).frozen? ⟨D1+1,1,none⟩=false:=fun o=>((World.grownBy_alloc wr o none).frozen_far ⟨D1+1,1,none⟩ (za0 d1) (by simp)).trans hZw.f1
          have hDl:=za0 hZw.d0
          simp only at hDl
          have hrow2:zb7 wr P k (imgF G fi x):=hrow.congr (fun i hi=>by simp[hi])
          obtain⟨i3,hi3,hz30,hz31,hz32⟩:=info_parts info35
          have hH2:=Hd5 hZw hrow2 d1a f1a hg6
          clear hb hrow hZw hrow2 d1a f1a hg6
          go_wp2_with (at_builtin;refine (wpList_append_lies _ rfl (.tmp 127) (.tmp 129) 26 rfl (D1+1+1) 35 i3 _ 1 24 und26 hi3 hz30 hz31 hz32 rfl (by omega) (.slice ua x uc) x xs rfl (hH2.out.1.own.alloc _) ⟨wr.heap.size,0,none⟩ 1 1 [.slice (some ⟨P,0,none⟩) k k] rfl rfl (World.news_of_block (cs:=#[.slice (some ⟨P,0,none⟩) k k]) (MapKept.heap_alloc wr _).1) (by simp[Value.oneCell']) (by omega) (by unfold maxLen;omega) (by omega) (by simp;omega) (wr.heap.size+1) (by simp) ?_);intro g cp w8 h1 h2 h3 h4;have c1:=h2.cell (hH2.out.2.2.1 _) hH2.out.1.ne;have f1':=(h2.frozen_far ⟨D1+1,1,none⟩ (za0 (hH2.out.2.2.1 _)) hH2.out.1.ne).trans (hH2.out.2.2.2.1 _);have HAP:=Hd3 h1 h2 h3;clear h1 h2 h3 h4)
          have hcn:=clsN_succ HOK.out hkk
          rw[if_pos HF1.out,←HC.out] at hcn
          refine⟨⟨f+1,by omega,by simp,?_⟩,by simp[intOf];omega⟩
          have hpush:=CW.push HZc.out.2 (za2 hH2.out.2.2.2.2 (World.grownBy_alloc _ (.cells #[.slice (some ⟨P,0,none⟩) k k] 35) none)) (by rw[HP6.out];exact Nat.le_refl _) (za3 hH2.out.2.1 (World.grownBy_alloc _ _ none) (by simp)) HAP.out.1 HAP.out.2.1 (HAP.out.2.2.imp id (fun e=>by simpa using e))
          refine⟨_,_,_,_,fun j hj i hi=>?_,by rw[show 4*t+(f+1)=4*t+f+1 by omega,hcn];exact hpush⟩
          rw[show 4*t+(f+1)=4*t+f+1 by omega,hcn] at hj
          by_cases e:j=x
          ·subst e;simp
          ·simp only[if_neg e]
           exact HZc.out.1 j (by rw[←HC.out];omega) i hi
       ·have q5:((x:Int) !=(c:Int))=true:=by simp;exact fun e=>hf1 (hcf.1 (by omega))
        have HF1:=Lib.hid hf1
        clear hcf hf1
        go_wp2
        refine wp_region_still_lit (by kernel_rfl) (by kernel_rfl) ?_
        repeat (refine wpStill_step (fun K hK=>?_);go_simp;refine hK _ ?_;clear hK K)
        refine wpStill_nil ?_
        clear d1 d2 cx d1' d2' cx'
        go_wp2
        exact⟨⟨f+1,by omega,by simp,(HI.out.skip HOK.out hkk HF1.out).kept (zb0 _ none)⟩,by simp[intOf];omega⟩
      ·obtain rfl:f=4:=by omega
       clear hI
       go_wp2
       exact⟨⟨t+1,by omega,by simp,by rw[show 4*(t+1)=4*t+4 by omega];exact HI.out⟩,by simp[intOf];omega⟩
    ·obtain rfl:t=G.n:=by omega
     obtain⟨F,ds,uv,xs,hF,hZ⟩:=HI.out
     obtain⟨ua,uc,rfl⟩:=za8 hZ.own
     have hlc:=hZ.LLc (E:=imgF G fi) hF
     have hnF:clsN G (4*G.n)=nF G:=rfl
     rw[hnF] at hlc hZ
     obtain⟨nf,hnf⟩:∃nf,nf=nF G:=⟨_,rfl⟩
     have hb':Below WB.heap.size WB wr:=by rw[HB.out.2.2.2.2.2];exact hZ.bel
     have hIB:=HB.out.1.below hb'
     have hnfb:nf≤4000:=by have:=zg7 (zb5 G).r4 (4*G.n);rw[hnf];unfold nF;omega
     have h52:=ris_walk HOK.out s (nF G) (fun _=>s) (imgF G fi) _ _ wr (HAT.out _ hIB).1 hlc (fun _ _=>by omega) (by rw[←hnf];omega)
     rw[←hnf] at hZ
     rw[←hnf] at h52
     have k0:=hIB.c0
     have d0:=hZ.d0
     have d1:=hZ.d1
     have H52:=Lib.hid h52
     have HNF:=Lib.hid hnf
     have HE:=Hd3 hIB hZ hF
     clear hlc hF hZ hb' hIB h52 hnF hnf
     go_wp2_with fail
     refine H52.out.mono ?_
     rintro e W7 ⟨rfl,hb7⟩
     have hIB7:=HE.out.1.below hb7
     have e0:=(hb7.cell (p:=⟨D1+1,0,none⟩) (za0 d0)).trans d0
     have e1:=(hb7.cell (p:=⟨D1+1,1,none⟩) (za0 d1)).trans d1
     clear k0 d0 d1 H52
     rcases Classical.em (¬IsP G s nf (fun _=>s) (imgF G fi)) with hI | hI
     ·rw[zd4 hI]
      have hcm:imgI G s nn li fi=110:=by
       unfold imgI;rw[if_pos HZ.out,if_pos H24.out,if_pos ⟨HNG.out,HA.out⟩,if_pos (by rw[HP.out];omega),show ((s:Int)).toNat=s from rfl,←HNF.out,if_neg hI]
      have HX:=Lib.hid (HERR.out 110 (by omega) hcm W7 hIB7)
      obtain⟨-,-,y0,y1,z0,z1⟩:=hIB7
      clear hcm hI e0 e1
      go_wp2
      exact bodyPost_ret (v:=.tuple #[.agg #[.int .i64 0,.slice none 0 0],.int .i64 110]) (by simp[results,Try.results36,go_sem, *]) rfl (HX.out _ _)
     ·have hI:=Classical.not_not.1 hI
      rw[boolOf_true hI]
      have hcm:imgI G s nn li fi=0:=by
       unfold imgI;rw[if_pos HZ.out,if_pos H24.out,if_pos ⟨HNG.out,HA.out⟩,if_pos (by rw[HP.out];omega),show ((s:Int)).toNat=s from rfl,←HNF.out,if_pos hI]
      have hll:=HE.out.2.1.LLn (E:=imgF G fi) (fun j hj i hi=>HE.out.2.2 j (by show j<nF G;rw[←HNF.out];exact hj) i hi)
      have hlt:=HE.out.1.lt
      have hDN:N+2≤D1+1:=by have:=HB.out.1.lt;have:=HB.out.2.2.2.2.2;omega
      have hll7:LLn (D1+1+1) wr.heap.size W7 (.slice ua nf uc) nf (fun _=>s) (imgF G fi):=hll.kept (za6 hb7 (Nat.le_refl _) none) (fun r e=>by cases e)
      have H7s:=Lib.hid hb7.size
      have HFN:=Hd3 hcm hll7 hIB7.bel
      obtain⟨-,-,y0,y1,z0,z1⟩:=hIB7
      clear hcm hI hll hll7
      go_wp2
      refine bodyPost_ret (v:=.tuple #[.agg #[.int .i64 (s:Int),.slice ua nf uc],.int .i64 0]) (by simp[results,Try.results36,go_sem, *]) rfl ⟨?_,(s:Int),_,by rw[HFN.out.1],.inr ⟨HFN.out.1,rfl,?_⟩⟩
      ·rw[←HN.out];exact (HFN.out.2.2.setCell (by show N≤N+1;omega) _).setCell (by show N≤N+1;omega) _
      ·rw[show ((s:Int)).toNat=s from rfl,←HNF.out]
       have hl1:=HFN.out.2.1.kept (za1 _ (N+1) 0 (.int .i64 (s:Int))) (fun r e=>by cases e;omega)
       have hl2:=hl1.kept (za1 _ (N+1) 1 (.slice ua nf uc)) (fun r e=>by cases e;omega)
       exact hl2.LLs.mono (by have:=H7s.out;simp;omega)
end
end
end Go.Proofs.Ytlckpgahijlmoaa
