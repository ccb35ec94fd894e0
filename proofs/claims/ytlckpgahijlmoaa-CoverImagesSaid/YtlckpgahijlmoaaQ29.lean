/- sane returns true, and turns nothing. -/
import Derived.Test.YtlckpgahijlmoaaQ28
import Derived.Test.YtlckpgahijlmoaaQ18
import Derived.Test.YtlckpgahijlmoaaQ20
import Derived.Test.YtlckpgahijlmoaaQ26
import Derived.Test.YtlckpgahijlmoaaQ27
import Derived.Test.YtlckpgahijlmoaaQ21
set_option maxRecDepth 100000
set_option maxHeartbeats 8000000
namespace Go.Proofs.Ytlckpgahijlmoaa
section
open Go.RowKit Go.Shelf Go.Maps
def AskedErr (G:Gl)(sh:Int)(np:Nat)(len:Nat→Nat)(fp:Nat→Nat→Int)(c:Int):Prop:=
 (za9 G=false∧c=7)∨(za9 G=true∧(∃i,i<nE G∧revK G (6*G.n) i=true)∧c=8) ∨
 (za9 G=true∧(∀i,i<nE G→revK G (6*G.n) i=false)∧¬CovOK G sh np len fp∧c=110) ∨
 (za9 G=true∧(∀i,i<nE G→revK G (6*G.n) i=false)∧CovOK G sh np len fp∧c=0)
theorem AskedAns.out {G:Gl}{v:Value}{sh:Int}{pv:Value}{np:Nat}{len:Nat→Nat}{fp:Nat→Nat→Int}{e:Ending}{w':World}(h:AskedAns G v sh pv np len fp e w') :
  (∃c,c≠0∧e=.returned (.tuple #[.pointer none,.int .i64 c])∧AskedErr G sh np len fp c) ∨
  (∃Cv B' X mb bv vv ev tv lv dB rB,e=.returned (.tuple #[.pointer (some ⟨Cv,0,none⟩),.int .i64 0])∧AskedErr G sh np len fp 0∧za9 G=true∧CovOK G sh np len fp∧CV w' w'.heap.size Cv B' X mb v pv bv G vv ev tv lv dB rB sh.toNat fp (fun k=>invP (fp k) sh.toNat)):=by
 rcases h with ⟨h1,h2⟩ | ⟨h1,h2,h3⟩ | ⟨h1,h2,h3,h4⟩ | ⟨h1,h2,h3,Cv,B',X,mb,bv,vv,ev,tv,lv,dB,rB,h4,h5⟩
 ·exact .inl ⟨7,by omega,h2,.inl ⟨h1,rfl⟩⟩
 ·exact .inl ⟨8,by omega,h3,.inr (.inl ⟨h1,h2,rfl⟩)⟩
 ·exact .inl ⟨110,by omega,h4,.inr (.inr (.inl ⟨h1,h2,h3,rfl⟩))⟩
 ·exact .inr ⟨Cv,B',X,mb,bv,vv,ev,tv,lv,dB,rB,h4,.inr (.inr (.inr ⟨h1,h2,h3,rfl⟩)),h1,h3,h5⟩
theorem CovOK.range {G:Gl}{sh:Int}{np:Nat}{len:Nat→Nat}{fp:Nat→Nat→Int}(h:CovOK G sh np len fp):∀k,k<nF G→∀i,i<sh.toNat→0≤fp k i∧fp k i<sh.toNat:=fun k hk i hi=>by
 have h1:=zf1 (h.perms k (by rw[h.num];exact hk))
 have h2:=h.lo
 have h3:=h1.2 i (by omega)
 omega
theorem CovOK.irange {G:Gl}{sh:Int}{np:Nat}{len:Nat→Nat}{fp:Nat→Nat→Int}(h:CovOK G sh np len fp):∀k,k<nF G→∀i,i<sh.toNat→0≤invP (fp k) sh.toNat i∧invP (fp k) sh.toNat i<sh.toNat:=fun k hk i hi=>
 invP_range (by have:=h.lo;omega) i sh.toNat (Nat.le_refl _)
theorem CovOK.small {G:Gl}{sh:Int}{np:Nat}{len:Nat→Nat}{fp:Nat→Nat→Int}(h:CovOK G sh np len fp):sh.toNat≤24∧sh.toNat*G.n≤1000:=by
 have h1:=h.lo
 have h2:=h.hi
 have h3:=h.tets
 refine⟨by omega,?_⟩
 have:sh=((sh.toNat:Nat):Int):=by omega
 rw[this,←Int.natCast_mul] at h3
 omega
theorem GlAt.setSlot {B:Nat}{W:World}{u:Value}{H:Gl}{r:Nat}(h:GlAt B W u H)(hy:W.cell? ⟨r,0,none⟩=some (.slice none 0 0))(x:Value):GlAt B (W.setCell ⟨r,0,none⟩ x) u H:=by
 obtain⟨a,b,off,cap,rfl,h1,h2⟩:=h
 have oth:∀o i,W.cell? ⟨b,o,none⟩=some (.int .i64 i)→(W.setCell ⟨r,0,none⟩ x).cell? ⟨b,o,none⟩=some (.int .i64 i):=fun o i hc=>by
  rw[World.cell?_setCell_other (a:=⟨r,0,none⟩) (b:=⟨b,o,none⟩) _ _ (fun e=>by rw[←e,hy] at hc;cases hc)]
  exact hc
 exact⟨a,b,off,cap,rfl,h1,fun k hk=>⟨oth _ _ (h2 k hk).1,fun i hi=>oth _ _ ((h2 k hk).2 i hi)⟩⟩
section
variable (G:Gl)(v:Value)(sh:Int)(pv:Value)(np:Nat)(len:Nat→Nat)(fp:Nat→Nat→Int)(w:World)(hG:GlAt w.heap.size w v G)(hm:G.n≤9223372036854775807)(hpv:LLs w.heap.size w pv np len fp)(hlen:∀k,k<np→len k<4611686018427387904)(hnp:np<4611686018427387904)
include hG hm hpv hlen hnp
theorem coverCheck_walk:Calls Try.prog 14 #[.agg #[v],.agg #[.int .i64 sh,pv]] w fun e w'=>Below w.heap.size w w'∧∃c,e=.returned (.int .i64 c)∧AskedErr G sh np len fp c:=by
 have HG:=Hd3 hG hpv hlen
 obtain⟨a,cap,rfl⟩:∃a cap,v=.slice a G.n cap:=by obtain⟨a,_,_,cap,e,_⟩:=hG;exact⟨a,cap,e⟩
 obtain⟨pa,pc,rfl⟩:∃a cap,pv=.slice a np cap:=by obtain⟨a,_,_,cap,e,_⟩:=hpv;exact⟨a,cap,e⟩
 clear hG hpv hlen
 go_enter Try.func14,Try.ntmps14
 go_wp2_with fail
 refine zb4 fun W0 hW=>?_
 have hb:Below w.heap.size w W0:=by rw[hW];(repeat' (first | assumption | exact Below.refl _ _ | refine za7 ?_ (by assumption) | refine zb2 ?_ _ | refine za5 ?_ | refine zb1 ?_ (by simp<;>omega) _))
 clear hW
 refine (asked_walk G (.slice a G.n cap) sh (.slice pa np pc) np len fp W0 ((HG.out.1.below hb).mono hb.size) hm ((HG.out.2.1.below hb).mono hb.size) HG.out.2.2 hnp).mono ?_
 rintro e W1 ⟨hb1,h1⟩
 have hbw:=hb.trans (hb1.mono hb.size)
 rcases h1.out with ⟨c,hc,rfl,he⟩ | ⟨Cv,B',X,mb,bv,vv,ev,tv,lv,dB,rB,rfl,he,-⟩
 ·have HE:=Hd2 hbw he
  clear hb hb1 h1 hbw he hc
  go_wp2
  go_ret
  exact⟨HE.out.1,_,rfl,HE.out.2⟩
 ·have HE:=Hd2 hbw he
  clear hb hb1 h1 hbw he
  go_wp2
  go_ret
  exact⟨HE.out.1,_,rfl,HE.out.2⟩
theorem coverMake_walk:Calls Try.prog 11 #[.agg #[v],.agg #[.int .i64 sh,pv]] w fun e w'=>Below w.heap.size w w'∧∃c u,e=.returned (.tuple #[.agg #[u],.int .i64 c])∧AskedErr G sh np len fp c ∧
  ((c≠0∧u=.slice none 0 0)∨(c=0∧CovOK G sh np len fp∧GlAt w'.heap.size w' u (covG G fp (fun k=>invP (fp k) sh.toNat) sh.toNat))):=by
 have HG:=Hd3 hG hpv hlen
 obtain⟨a,cap,rfl⟩:∃a cap,v=.slice a G.n cap:=by obtain⟨a,_,_,cap,e,_⟩:=hG;exact⟨a,cap,e⟩
 obtain⟨pa,pc,rfl⟩:∃a cap,pv=.slice a np cap:=by obtain⟨a,_,_,cap,e,_⟩:=hpv;exact⟨a,cap,e⟩
 clear hG hpv hlen
 generalize hN:w.heap.size=N at *
 go_enter Try.func11,Try.ntmps11
 go_wp2_with fail
 refine zb4 fun W0 hW=>?_
 have h0:Below N w W0∧W0.cell? ⟨N+1+1,0,none⟩=some (.slice none 0 0)∧W0.frozen? ⟨N+1+1,0,none⟩=false∧W0.heap.size=N+3:=by
  rw[hW]
  subst hN
  exact⟨by (repeat' (first | assumption | exact Below.refl _ _ | refine za7 ?_ (by assumption) | refine zb2 ?_ _ | refine za5 ?_ | refine zb1 ?_ (by simp<;>omega) _)),by simp[go_sem],by simp[go_sem],by simp⟩
 clear hW
 have hb:=h0.1
 have hz0:=h0.2.2.2
 have HNN:=Lib.hid hN
 refine (asked_walk G (.slice a G.n cap) sh (.slice pa np pc) np len fp W0 ((HG.out.1.below hb).mono (by omega)) hm ((HG.out.2.1.below hb).mono (by omega)) HG.out.2.2 hnp).mono ?_
 rintro e W1 ⟨hb1,h1⟩
 have hbw:=hb.trans (hb1.mono (by omega))
 have hs1:=hb1.size
 have y0:=(hb1.cell (p:=⟨N+1+1,0,none⟩) (by show N+1+1<_;omega)).trans h0.2.1
 have z0:=(hb1.frozen (p:=⟨N+1+1,0,none⟩) (by show N+1+1<_;omega)).trans h0.2.2.1
 clear hN hz0 h0
 rcases h1.out with ⟨c,hc,rfl,he⟩ | ⟨Cv,B',X,mb,bv,vv,ev,tv,lv,dB,rB,rfl,he,hok,hcov,hCV⟩
 ·have HE:=Hd3 hbw he hc
  have q1:(c !=0)=true:=by simpa using hc
  clear hb hb1 h1 hbw he hc
  go_wp2
  exact bodyPost_ret (v:=.tuple #[.agg #[.slice none 0 0],.int .i64 c]) (by simp[results,Try.results11,go_sem, *]) rfl ⟨HE.out.1.setCell (by show N≤N+1+1;omega) _,c,_,rfl,HE.out.2.1,.inl ⟨HE.out.2.2,rfl⟩⟩
 ·have hNs:N≤W1.heap.size:=by have:=hb.size;have:=HNN.out;omega
  have h45:=gluing_walk hok hCV (Nat.le_refl _) ((HG.out.1.below hbw).mono hNs) hcov.range hcov.irange (by have:=hcov.small.1;omega) hcov.small.2
  have HE:=Hd4 hbw he hcov h45
  clear hb hb1 h1 hbw he hok hcov hCV h45
  go_wp2_with fail
  refine HE.out.2.2.2.mono ?_
  rintro e W2 ⟨u,rfl,hgl,hb2⟩
  have y2:=(hb2.cell (p:=⟨N+1+1,0,none⟩) (za0 y0)).trans y0
  have z2:=(hb2.frozen (p:=⟨N+1+1,0,none⟩) (za0 y0)).trans z0
  obtain⟨ga,gc,rfl⟩:∃ga gc,u=.slice ga (covG G fp (fun k=>invP (fp k) sh.toNat) sh.toNat).n gc:=by obtain⟨a,_,_,cap,e,_⟩:=hgl;exact⟨a,cap,e⟩
  obtain⟨H,hH⟩:∃H,H=covG G fp (fun k=>invP (fp k) sh.toNat) sh.toNat:=⟨_,rfl⟩
  rw[←hH] at hgl ⊢
  have H2:=Hd4 hgl hb2 hH y2
  clear hgl hb2 hH y0 z0
  go_wp2
  refine bodyPost_ret (v:=.tuple #[.agg #[.slice ga H.n gc],.int .i64 0]) (by simp[results,Try.results11,go_sem, *]) rfl ⟨(HE.out.1.trans (H2.out.2.1.mono hNs)).setCell (by show N≤N+1+1;omega) _,0,_,rfl,HE.out.2.1,.inr ⟨rfl,HE.out.2.2.1,?_⟩⟩
  rw[←H2.out.2.2.1,World.size_setCell]
  exact H2.out.1.setSlot H2.out.2.2.2 _
end
end
section
def tb (G:Gl)(k:Nat):Nat:=4*G.T k+G.P k (k % 4)
def isF (G:Gl)(k:Nat):Prop:=G.tet k<0∨k<tb G k
instance (G:Gl) (k:Nat):Decidable (isF G k):=by unfold isF;infer_instance
section
variable {G:Gl}(hok:za9 G=true)
include hok
theorem ok_at {k:Nat}(hk:k<4*G.n):okB G k=true:=by
 simp only[za9,Bool.and_eq_true,List.all_eq_true,List.mem_range] at hok
 exact hok.2 k hk
theorem zg5:G.n≤1000:=by
 simp only[za9,Bool.and_eq_true,decide_eq_true_eq] at hok
 exact hok.1
theorem ok_parts {k:Nat}(hk:k<4*G.n)(ht:¬G.tet k<0):inTetB G k=true∧zc9 (G.p k)=true∧selfB G k=false∧matchB G k=true:=by
 have h:=ok_at hok hk
 simp only[okB,Bool.or_eq_true,Bool.and_eq_true,noneB,beq_iff_eq,Bool.not_eq_true'] at h
 rcases h with h | ⟨⟨⟨a,b⟩,c⟩,d⟩
 ·omega
 ·exact⟨a,b,c,d⟩
theorem zd5 {k:Nat}(hk:k<4*G.n)(ht:¬G.tet k<0):tb G k<4*G.n∧¬G.tet (tb G k)<0∧tb G (tb G k)=k∧tb G k≠k∧tb G k / 4=G.T k∧tb G k % 4=G.P k (k % 4)∧G.T (tb G k)=k / 4:=by
 obtain⟨b1,b2,b3,b4⟩:=ok_back hok hk ht
 obtain⟨h1,h2,hp⟩:=zc6 hok hk ht
 have hP:=hp (k % 4) (by omega)
 have e4:tb G k % 4=G.P k (k % 4):=by unfold tb;omega
 have e5:tb G k / 4=G.T k:=by unfold tb;omega
 refine⟨b1,b2,?_,fun e=>?_,e5,e4,b3⟩
 ·show 4*G.T (tb G k)+G.P (tb G k) (tb G k % 4)=k
  rw[e4,show G.T (tb G k)=k / 4 from b3,show G.P (tb G k) (G.P k (k % 4))=k % 4 from b4 _ (by omega)]
  omega
 ·have h3:=(ok_parts hok hk ht).2.2.1
  rw[e] at e4 e5
  have hs:selfB G k=true:=by
   simp only[selfB,Bool.and_eq_true,beq_iff_eq]
   refine⟨by rw[h1];omega,by rw[hP.1];omega⟩
  rw[hs] at h3;cases h3
theorem tr_at:∀m,m≤4*G.n→∀k,k<4*G.n→lp (trF G) id m k=if ¬G.tet k<0∧min k (tb G k)<m then min k (tb G k) else k
 | 0,_,k,hk=>by rw[if_neg (by omega)];rfl
 | m+1,hm,k,hk=>by
  have ih:=tr_at m (by omega)
  rw[ze0]
  by_cases ht:G.tet m<0
  ·rw[trF_lt ht,ih k hk]
   have:(¬G.tet k<0∧min k (tb G k)<m)↔(¬G.tet k<0∧min k (tb G k)<m+1):=by
    constructor
    ·rintro⟨a,b⟩;exact⟨a,by omega⟩
    ·rintro⟨a,b⟩
     refine⟨a,?_⟩
     rcases Nat.lt_or_ge (min k (tb G k)) m with h | h
     ·exact h
     ·exfalso
      have hm2:min k (tb G k)=m:=by omega
      rcases Nat.le_total k (tb G k) with q | q
      ·rw[Nat.min_eq_left q] at hm2;subst hm2;exact a ht
      ·rw[Nat.min_eq_right q] at hm2
       have:=(zd5 hok hk a).2.1
       rw[hm2] at this;exact this ht
   simp only[this]
  ·rw[trF_ge ht]
   obtain⟨f1,f2,f3,f4,f5,f6,f7⟩:=zd5 hok (show m<4*G.n by omega) ht
   show joinR _ m (tb G m) k=_
   have em:=ih m (by omega)
   have et:=ih (tb G m) f1
   rw[f3] at et
   by_cases hlt:tb G m<m
   ·rw[if_pos ⟨ht,by omega⟩,Nat.min_eq_right (by omega)] at em
    rw[if_pos ⟨f2,by omega⟩,Nat.min_eq_left (by omega)] at et
    rw[join_same (by rw[em,et]),ih k hk]
    have:(¬G.tet k<0∧min k (tb G k)<m)↔(¬G.tet k<0∧min k (tb G k)<m+1):=by
     constructor
     ·rintro⟨a,b⟩;exact⟨a,by omega⟩
     ·rintro⟨a,b⟩
      refine⟨a,?_⟩
      rcases Nat.lt_or_ge (min k (tb G k)) m with h | h
      ·exact h
      ·exfalso
       have hm2:min k (tb G k)=m:=by omega
       obtain⟨g1,g2,g3,g4,-⟩:=zd5 hok hk a
       rcases Nat.le_total k (tb G k) with q | q
       ·rw[Nat.min_eq_left q] at hm2;subst hm2;omega
       ·rw[Nat.min_eq_right q] at hm2
        rw[hm2] at g3;omega
    simp only[this]
   ·rw[if_neg (by omega)] at em
    rw[if_neg (by omega)] at et
    unfold joinR
    rw[em,et,Nat.max_eq_right (by omega),Nat.min_eq_left (by omega),ih k hk]
    by_cases e1:k=tb G m
    ·subst e1
     rw[f3,if_neg (show ¬(¬G.tet (tb G m)<0∧min (tb G m) m<m) by omega),if_pos rfl,if_pos ⟨f2,by omega⟩];omega
    ·by_cases e2:k=m
     ·subst e2
      rw[if_neg (show ¬(¬G.tet k<0∧min k (tb G k)<k) by omega),if_neg (by omega),if_pos ⟨ht,by omega⟩];omega
     ·have:(¬G.tet k<0∧min k (tb G k)<m)↔(¬G.tet k<0∧min k (tb G k)<m+1):=by
       constructor
       ·rintro⟨a,b⟩;exact⟨a,by omega⟩
       ·rintro⟨a,b⟩
        refine⟨a,?_⟩
        rcases Nat.lt_or_ge (min k (tb G k)) m with h | h
        ·exact h
        ·exfalso
         have hm2:min k (tb G k)=m:=by omega
         obtain⟨g1,g2,g3,g4,-⟩:=zd5 hok hk a
         rcases Nat.le_total k (tb G k) with q | q
         ·rw[Nat.min_eq_left q] at hm2;exact e2 hm2
         ·rw[Nat.min_eq_right q] at hm2
          rw[hm2] at g3;omega
      simp only[←this]
      by_cases c:¬G.tet k<0∧min k (tb G k)<m
      ·rw[if_pos c]
       have hne:min k (tb G k)≠tb G m:=by
        intro e
        obtain⟨g1,g2,g3,g4,-⟩:=zd5 hok hk c.1
        rcases Nat.le_total k (tb G k) with q | q
        ·rw[Nat.min_eq_left q] at e;exact e1 e
        ·rw[Nat.min_eq_right q] at e
         rw[e,f3] at g3;exact e2 g3.symm
       rw[if_neg hne]
      ·rw[if_neg c,if_neg e1]
theorem r4_at {k:Nat}(hk:k<4*G.n):(zb5 G).r4 k=if G.tet k<0 then k else min k (tb G k):=by
 rw[cls_r4,tr_at hok _ (Nat.le_refl _) k hk]
 by_cases ht:G.tet k<0
 ·rw[if_neg (fun e=>e.1 ht),if_pos ht]
 ·rw[if_pos ⟨ht,by omega⟩,if_neg ht]
theorem isF_root {k:Nat}(hk:k<4*G.n):(zb5 G).r4 k=k↔isF G k:=by
 rw[r4_at hok hk]
 unfold isF
 by_cases ht:G.tet k<0
 ·simp[ht]
 ·have:=(zd5 hok hk ht).2.2.2.1
  simp only[ht,if_false,false_or];omega
theorem fN_tb {k:Nat}(hk:k<4*G.n)(ht:¬G.tet k<0):fN G (tb G k)=fN G k:=by
 obtain⟨f1,f2,f3,-⟩:=zd5 hok hk ht
 unfold fN
 rw[r4_at hok hk,r4_at hok f1,if_neg ht,if_neg f2,f3,Nat.min_comm]
theorem fN_eq {k m:Nat}(hk:k<4*G.n)(hm:m<4*G.n)(h:fN G k=fN G m):k=m∨(¬G.tet k<0∧m=tb G k):=by
 obtain⟨u,hu⟩:=(cls_inv hok).2.2.2
 have h1:=cnt_inj (hu.idem k hk) (hu.idem m hm) h
 rw[r4_at hok hk,r4_at hok hm] at h1
 by_cases t1:G.tet k<0<;>by_cases t2:G.tet m<0
 ·simp[t1,t2] at h1;exact .inl h1
 ·simp[t1,t2] at h1
  have:=zd5 hok hm t2
  rcases Nat.le_total m (tb G m) with q | q
  ·rw[Nat.min_eq_left q] at h1;exact .inl h1
  ·rw[Nat.min_eq_right q] at h1;rw[←h1] at this;exact absurd t1 this.2.1
 ·simp[t1,t2] at h1
  have:=zd5 hok hk t1
  rcases Nat.le_total k (tb G k) with q | q
  ·rw[Nat.min_eq_left q] at h1;exact .inl h1
  ·rw[Nat.min_eq_right q] at h1;rw[h1] at this;exact absurd t2 this.2.1
 ·simp[t1,t2] at h1
  have f:=zd5 hok hk t1
  have g:=zd5 hok hm t2
  by_cases e:k=m
  ·exact .inl e
  ·refine .inr ⟨t1,?_⟩
   rcases Nat.le_total k (tb G k) with q | q<;>rcases Nat.le_total m (tb G m) with q2 | q2
   ·rw[Nat.min_eq_left q,Nat.min_eq_left q2] at h1;exact absurd h1 e
   ·rw[Nat.min_eq_left q,Nat.min_eq_right q2] at h1
    rw[h1,g.2.2.1]
   ·rw[Nat.min_eq_right q,Nat.min_eq_left q2] at h1;exact h1.symm
   ·rw[Nat.min_eq_right q,Nat.min_eq_right q2] at h1
    have:=f.2.2.1
    rw[h1,g.2.2.1] at this;exact absurd this.symm e
theorem fD_at:∀m,m≤4*G.n→∀t f,f<4→fD G m (t,f)=if 4*t+f<m∧isF G (4*t+f) then some (fN G (4*t+f)) else none
 | 0,_,t,f,hf=>by rw[if_neg (by omega)];rfl
 | m+1,hm,t,f,hf=>by
  have ih:=fD_at m (by omega) t f hf
  have hr:fN G m=cnt (zb5 G).r4 m↔isF G m:=by
   rw[←isF_root hok (by omega)]
   obtain⟨u,hu⟩:=(cls_inv hok).2.2.2
   have h1:=hu.rle m (by omega)
   have h2:=hu.idem m (by omega)
   constructor
   ·intro e
    by_cases q:(zb5 G).r4 m=m
    ·exact q
    ·have:=cnt_lt (zb5 G).r4 (i:=m) (n:=m) h2 (by omega)
     unfold fN at e;omega
   ·intro e;unfold fN;rw[e]
  unfold fD
  by_cases e:4*t+f=m
  ·have e1:m / 4=t:=by omega
   have e2:m % 4=f:=by omega
   by_cases c:isF G m
   ·rw[if_pos (hr.2 c),e1,e2]
    simp only[if_true]
    rw[if_pos (by rw[e];exact⟨by omega,c⟩),e]
   ·rw[if_neg (fun q=>c (hr.1 q)),ih,if_neg (by rw[e];exact fun q=>c q.2),if_neg (by rw[e];exact fun q=>c q.2)]
  ·have hne:(t,f)≠(m / 4,m % 4):=fun q=>by
    have:=Prod.mk.inj q
    omega
   have:(4*t+f<m∧isF G (4*t+f))↔(4*t+f<m+1∧isF G (4*t+f)):=by
    constructor
    ·rintro⟨a,b⟩;exact⟨by omega,b⟩
    ·rintro⟨a,b⟩;exact⟨by omega,b⟩
   by_cases c:fN G m=cnt (zb5 G).r4 m
   ·rw[if_pos c]
    simp only[hne,if_false]
    rw[ih];simp only[this]
   ·rw[if_neg c,ih];simp only[this]
theorem fD_first {t f:Nat}(ht:t<G.n)(hf:f<4):(fD G (4*G.n) (t,f)).isSome=true↔isF G (4*t+f):=by
 rw[fD_at hok _ (Nat.le_refl _) t f hf]
 by_cases c:isF G (4*t+f)
 ·rw[if_pos ⟨by omega,c⟩];simp[c]
 ·rw[if_neg (fun q=>c q.2)];simp[c]
theorem crF_at (f g:Nat→Nat→Int){t fc:Nat}(ht:t<G.n)(hf:fc<4)(i:Nat):crF G f g t fc i=if isF G (4*t+fc) then f (fN G (4*t+fc)) i else g (fN G (4*t+fc)) i:=by
 unfold crF
 by_cases c:isF G (4*t+fc)
 ·rw[if_pos ((fD_first hok ht hf).2 c),if_pos c]
 ·rw[if_neg (fun q=>c ((fD_first hok ht hf).1 q)),if_neg c]
theorem isF_tb {k:Nat}(hk:k<4*G.n)(ht:¬G.tet k<0):isF G (tb G k)↔¬isF G k:=by
 obtain⟨f1,f2,f3,f4,-⟩:=zd5 hok hk ht
 unfold isF
 rw[f3]
 simp only[f2,ht,false_or];omega
end
structure Sh (G:Gl)(sh:Nat)(f g:Nat→Nat→Int):Prop where
 fr:∀k i,k<nF G→i<sh→∃j:Nat,f k i=j∧j<sh
 gr:∀k i,k<nF G→i<sh→∃j:Nat,g k i=j∧j<sh
 gf:∀k i (j:Nat),k<nF G→i<sh→f k i=j→g k j=i
 fg:∀k i (j:Nat),k<nF G→i<sh→g k i=j→f k j=i
section
variable {G:Gl}{sh:Nat}{f g:Nat→Nat→Int}(hok:za9 G=true)(hS:Sh G sh f g)
include hok hS
theorem cr_back {k s:Nat}(hk:k<4*G.n)(ht:¬G.tet k<0)(hs:s<sh):∃s':Nat,crF G f g (k / 4) (k % 4) s=s'∧s'<sh∧crF G f g (tb G k / 4) (tb G k % 4) s'=s:=by
 obtain⟨f1,f2,f3,-⟩:=zd5 hok hk ht
 have e1:4*(k / 4)+k % 4=k:=by omega
 have e2:4*(tb G k / 4)+tb G k % 4=tb G k:=by omega
 rw[crF_at hok f g (by omega) (by omega),e1]
 have hc:∀i,crF G f g (tb G k / 4) (tb G k % 4) i=if isF G (tb G k) then f (fN G k) i else g (fN G k) i:=fun i=>by
  rw[crF_at hok f g (by omega) (by omega),e2,fN_tb hok hk ht]
 have hn:=fN_lt hok hk
 by_cases c:isF G k
 ·obtain⟨j,hj,hl⟩:=hS.fr _ s hn hs
  refine⟨j,by rw[if_pos c,hj],hl,?_⟩
  rw[hc,if_neg (fun q=>(isF_tb hok hk ht).1 q c)]
  exact hS.gf _ s j hn hs hj
 ·obtain⟨j,hj,hl⟩:=hS.gr _ s hn hs
  refine⟨j,by rw[if_neg c,hj],hl,?_⟩
  rw[hc,if_pos ((isF_tb hok hk ht).2 c)]
  exact hS.fg _ s j hn hs hj
end
end
section
open Go.RowKit Go.Shelf
theorem rfirst_walk {G:Gl}(hok:za9 G=true)(t f:Nat)(ht:t<G.n)(hf:f<4)(v:Value)(w:World)(hG:GlAt w.heap.size w v G) :
  Calls Try.prog 54 #[.agg #[v],.int .i64 (t:Int),.int .i64 (f:Int)] w fun e w'=>e=.returned (.bool (decide (isF G (4*t+f))))∧Below w.heap.size w w':=by
 have hn:=zg5 hok
 have HOK:=Lib.hid hok
 obtain⟨a,b,off,cap,rfl,hga,hgc⟩:=hG
 obtain⟨rfl,hb0⟩:=hga (by omega)
 obtain⟨N,hN⟩:∃N,N=w.heap.size:=⟨_,rfl⟩
 obtain⟨fb0,fb⟩:=hgc (4*t+f) (by omega)
 rw[show off+5*(4*t+f)=off+t*20+f*5 by omega] at fb0 fb
 obtain⟨T,hT⟩:∃T,T=G.tet (4*t+f):=⟨_,rfl⟩
 obtain⟨pp,hpp⟩:∃pp,pp=G.pm (4*t+f):=⟨_,rfl⟩
 rw[←hT] at fb0
 rw[←hpp] at fb
 have fb1:=fb 0 (by omega)
 have fb2:=fb 1 (by omega)
 have fb3:=fb 2 (by omega)
 have fb4:=fb 3 (by omega)
 rw[Nat.add_zero] at fb1
 have p0:=za4 fb0
 have p1:=za4 fb1
 have p2:=za4 fb2
 have p3:=za4 fb3
 have p4:=za4 fb4
 have t0:0≤(t:Int):=by omega
 have tn:(t:Int)<(G.n:Int):=by omega
 have f0:0≤(f:Int):=by omega
 have f4:(f:Int)<4:=by omega
 have HT:=Hd2 hT hpp
 clear hgc hga fb fb0 fb1 fb2 fb3 fb4 hok hT hpp
 go_enter Try.func54,Try.ntmps54
 go_wp2
 refine zb3 fun W1 hW=>?_
 rw[←hN]
 have h1:Below N w W1∧W1.cell? ⟨N+1,0,none⟩=some (.int .i64 T)∧∀i,i<4→W1.cell? ⟨N+1,1+i,none⟩=some (.int .i64 (pp i)):=by
  rw[hW,hN]
  refine⟨by (repeat' (first | assumption | exact Below.refl _ _ | refine za7 ?_ (by assumption) | refine zb2 ?_ _ | refine za5 ?_ | refine zb1 ?_ (by simp<;>omega) _)),by simp[go_sem],fun i hi=>?_⟩
  rcases (show i=0∨i=1∨i=2∨i=3 by omega) with rfl | rfl | rfl | rfl<;>simp[go_sem]
 obtain⟨hb,c0,ci⟩:=h1
 have HB:=Hd2 hb hN
 clear hW hb hN p0 p1 p2 p3 p4
 rcases Int.lt_or_le T 0 with hT0 | hT0
 ·have q1:decide (T<0)=true:=by simpa using hT0
  have d0:W1.drew.cell? ⟨N+1,0,none⟩=some (.int .i64 T):=c0
  have HD:=Lib.hid (show decide (isF G (4*t+f))=true by rw[decide_eq_true_eq];left;rw[←HT.out.1];exact hT0)
  clear ci
  refine zd8 18 (by kernel_rfl) (by kernel_rfl) (fun Q2 hQ2=>?_)
  repeat (refine zg0 (fun K hK=>?_);go_simp;refine hK _ ?_;clear hK K)
  refine wpSt_nil (hQ2 _ ?_)
  clear hQ2 Q2
  go_wp2
  go_ret
  exact⟨by rw[HD.out];rfl,by rw[←HB.out.2];exact za5 HB.out.1⟩
 ·have q1:decide (T<0)=false:=by simp;omega
  have hk:4*t+f<4*G.n:=by omega
  have hnn:¬G.tet (4*t+f)<0:=by rw[←HT.out.1];omega
  obtain⟨e1,e2,e3⟩:=zc6 HOK.out hk hnn
  obtain⟨x,hx⟩:∃x:Nat,T=(x:Int)∧x<G.n:=⟨G.T (4*t+f),by rw[HT.out.1,e1],e2⟩
  obtain⟨rfl,hxn⟩:=hx
  obtain⟨y,hy⟩:∃y:Nat,pp f=(y:Int)∧y<4:=⟨G.P (4*t+f) f,by rw[HT.out.2];exact (e3 f hf).1,(e3 f hf).2⟩
  obtain⟨hy,hy4⟩:=hy
  have cf:=ci f hf
  rw[hy] at cf
  have d0:W1.drew.cell? ⟨N+1,0,none⟩=some (.int .i64 (x:Int)):=c0
  have df:W1.drew.cell? ⟨N+1,1+f,none⟩=some (.int .i64 (y:Int)):=cf
  have m1:IntKind.i64.wrap (4*(t:Int))=((4*t:Nat):Int):=by rw[IntWalk.i64_in _ (by omega)];push_cast;rfl
  have m2:IntKind.i64.wrap (((4*t:Nat):Int)+(f:Int))=((4*t+f:Nat):Int):=by rw[IntWalk.i64_in _ (by omega)];push_cast;rfl
  have m3:IntKind.i64.wrap (4*(x:Int))=((4*x:Nat):Int):=by rw[IntWalk.i64_in _ (by omega)];push_cast;rfl
  have m4:IntKind.i64.wrap (((4*x:Nat):Int)+(y:Int))=((4*x+y:Nat):Int):=by rw[IntWalk.i64_in _ (by omega)];push_cast;rfl
  obtain⟨A,hA⟩:∃A,A=4*t:=⟨_,rfl⟩
  obtain⟨B,hB⟩:∃B,B=4*t+f:=⟨_,rfl⟩
  obtain⟨C,hC⟩:∃C,C=4*x:=⟨_,rfl⟩
  obtain⟨D,hD⟩:∃D,D=4*x+y:=⟨_,rfl⟩
  have htb:tb G (4*t+f)=D:=by
   unfold tb
   rw[show (4*t+f) % 4=f by omega]
   have h1:G.T (4*t+f)=x:=by
    have:=HT.out.1;unfold Gl.T;rw[←this];simp
   have h2:G.P (4*t+f) f=y:=by
    unfold Gl.P;rw[←HT.out.2,hy];simp
   rw[h1,h2,hD]
  have hdec:decide (isF G (4*t+f))=decide ((B:Int)<(D:Int)):=by
   have:isF G (4*t+f)↔B<D:=by
    unfold isF
    rw[htb,←hB]
    rw[←hB] at hnn
    simp only[hnn,false_or]
   by_cases q:B<D
   ·rw[decide_eq_true (this.2 q),decide_eq_true (by omega)]
   ·rw[decide_eq_false (fun z=>q (this.1 z)),decide_eq_false (by omega)]
  rw[←hB] at m2
  rw[←hA] at m1 m2
  rw[←hD] at m4
  rw[←hC] at m3 m4
  have HD:=Lib.hid hdec
  clear ci hdec htb hA hB hC hD hy e1 e2 e3 hnn
  refine zd8 18 (by kernel_rfl) (by kernel_rfl) (fun Q2 hQ2=>?_)
  repeat (refine zg0 (fun K hK=>?_);go_simp;refine hK _ ?_;clear hK K)
  refine wpSt_nil (hQ2 _ ?_)
  clear hQ2 Q2
  go_wp2
  go_ret
  exact⟨by rw[HD.out];simp,by rw[←HB.out.2];exact za5 HB.out.1⟩
end
section
open Go.RowKit Go.Shelf Go.Maps
end
section
open Go.RowKit
def q1:Nat→Nat→Int:=fun _ i=>if i=0 then 1 else 0
def q2:Nat→Nat→Int:=fun k i=>if k=0 then (if i=0 then 1 else 0) else i
theorem nF_GS:nF GS=2:=by decide +kernel
theorem nE_GS:nE GS=2:=by decide +kernel
theorem rev_GS:∀i,i<nE GS→revK GS (6*GS.n) i=false:=fun i hi=>by
 have h:∀i:Fin 2,revK GS (6*GS.n) i.val=false:=by decide +kernel
 rw[nE_GS] at hi
 exact h ⟨i,hi⟩
theorem eN_GS:∀q:Fin 6,1<q.val→∃q':Fin 6,q'.val<q.val∧eN GS q'.val=eN GS q.val:=by decide +kernel
theorem first_GS {q:Nat}(hq:q<6)(h:firstE GS q):q=0∨q=1:=by
 rcases Nat.lt_or_ge 1 q with h1 | h1
 ·obtain⟨q',a,b⟩:=eN_GS ⟨q,hq⟩ h1
  exact absurd b (h q'.val a)
 ·omega
theorem ringOK_of {G:Gl}{f g:Nat→Nat→Int}{sh:Nat}{s:RS}{m0:Nat}(h0:0<m0)(h1:itr G 2 s m0=some s)(h2:∀i:Fin m0,0<i.val→itr G 2 s i.val≠some s)(h3:∀i:Fin sh,shA G f g (pth G 2 s m0) i.val m0=i.val):ze1 G f g sh s:=fun m a b c i hi=>by
 obtain rfl:=ring_uniq h0 a h1 (fun i x y=>h2 ⟨i,y⟩ x) b c
 exact h3 ⟨i,hi⟩
theorem cov1:CovOK GS 2 2 (fun _=>2) q1 where
 lo:=by decide
 hi:=by decide
 tets:=by decide +kernel
 num:=nF_GS.symm
 perms:=fun k hk=>by
  have h:∀k:Fin 2,permB 2 (q1 k.val) 2=true:=by decide +kernel
  exact h ⟨k,hk⟩
 free:=fun t f _ h=>absurd h (by show ¬(0:Int)<0;decide)
 rings:=fun q hq hf=>by
  rcases first_GS hq hf with rfl | rfl
  ·exact ringOK_of (m0:=4) (by decide) (by decide +kernel) (by decide +kernel) (by decide +kernel)
  ·exact ringOK_of (m0:=2) (by decide) (by decide +kernel) (by decide +kernel) (by decide +kernel)
theorem cov2:¬CovOK GS 2 2 (fun _=>2) q2:=fun h=>by
 have hf:firstE GS 1:=by
  have h:∀q':Fin 1,eN GS q'.val≠eN GS 1:=by decide +kernel
  exact fun q' hq=>h ⟨q',hq⟩
 have hr:=h.rings 1 (by decide) hf 2 (by decide) (by decide +kernel) (fun i a b=>by
  have h:∀i:Fin 2,0<i.val→itr GS 2 (frS (1 / 6) (1 % 6)) i.val≠some (frS (1 / 6) (1 % 6)):=by decide +kernel
  exact h ⟨i,b⟩ a) 0 (by decide)
 exact absurd hr (by decide +kernel)
theorem err1 {c:Int}(h:AskedErr GS 2 2 (fun _=>2) q1 c):c=0:=by
 rcases h with ⟨h,_⟩ | ⟨_,⟨i,h1,h2⟩,_⟩ | ⟨_,_,h,_⟩ | ⟨_,_,_,h⟩
 ·rw[GS_ok] at h;cases h
 ·rw[rev_GS i h1] at h2;cases h2
 ·exact absurd cov1 h
 ·exact h
theorem err2 {c:Int}(h:AskedErr GS 2 2 (fun _=>2) q2 c):c=110:=by
 rcases h with ⟨h,_⟩ | ⟨_,⟨i,h1,h2⟩,_⟩ | ⟨_,_,_,h⟩ | ⟨_,_,h,_⟩
 ·rw[GS_ok] at h;cases h
 ·rw[rev_GS i h1] at h2;cases h2
 ·exact h
 ·exact absurd h cov2
end
section
open Go.RowKit Go.Shelf
theorem GS_form {B:Nat}{W:World}{u:Value}(h:GlAt B W u GS):∃ga gc,u=.slice ga 1 gc:=by
 obtain⟨a,_,_,cap,e,_⟩:=h
 exact⟨a,cap,e⟩
theorem two_rows (W:World)(D:Nat)(hD:D=W.heap.size)(q:Nat→Nat→Int)(W':World)(e:W'=((W.alloc (.cells #[.int .i64 (q 0 0),.int .i64 (q 0 1)] 3)).alloc (.cells #[.int .i64 (q 1 0),.int .i64 (q 1 1)] 3)).alloc (.cells #[.slice (some ⟨D,0,none⟩) 2 2,.slice (some ⟨D+1,0,none⟩) 2 2] 35)) :
  LLs W'.heap.size W' (.slice (some ⟨D+1+1,0,none⟩) 2 2) 2 (fun _=>2) q∧W.grownBy W' none:=by
 have g1:=World.grownBy_alloc W (.cells #[.int .i64 (q 0 0),.int .i64 (q 0 1)] 3) none
 have g2:=World.grownBy_alloc (W.alloc (.cells #[.int .i64 (q 0 0),.int .i64 (q 0 1)] 3)) (.cells #[.int .i64 (q 1 0),.int .i64 (q 1 1)] 3) none
 have g3:=World.grownBy_alloc ((W.alloc (.cells #[.int .i64 (q 0 0),.int .i64 (q 0 1)] 3)).alloc (.cells #[.int .i64 (q 1 0),.int .i64 (q 1 1)] 3)) (.cells #[.slice (some ⟨D,0,none⟩) 2 2,.slice (some ⟨D+1,0,none⟩) 2 2] 35) none
 rw[←e] at g3
 have hs:W'.heap.size=D+3:=by rw[e];simp;omega
 refine⟨⟨_,D+1+1,0,2,rfl,fun _=>⟨rfl,by omega⟩,fun k hk=>?_⟩,za2 g1 (za2 g2 g3)⟩
 have hk':k=0∨k=1:=by omega
 subst hD
 rcases hk' with rfl | rfl
 ·refine⟨_,by rw[e];simp[go_sem],_,W.heap.size,0,2,rfl,fun _=>⟨rfl,by omega⟩,fun i hi=>?_⟩
  have hi':i=0∨i=1:=by have hi2:i<2:=hi;omega
  rcases hi' with rfl | rfl<;>rw[e]<;>simp[go_sem]
 ·refine⟨_,by rw[e];simp[go_sem],_,W.heap.size+1,0,2,rfl,fun _=>⟨rfl,by omega⟩,fun i hi=>?_⟩
  have hi':i=0∨i=1:=by have hi2:i<2:=hi;omega
  rcases hi' with rfl | rfl<;>rw[e]<;>simp[go_sem]
theorem sane_walk (w:World):Calls Try.prog 9 #[] w fun e w'=>e=.returned (.bool true)∧Below w.heap.size w w':=by
 have hp:=fun W=>Parse_walk W
 unfold txt at hp
 have HP:=Lib.hid hp
 clear hp
 generalize hN:w.heap.size=N at *
 have HNN:=Lib.hid hN
 go_enter Try.func9,Try.ntmps9
 go_wp2_with (first
  |(go_at_call 40;(with_reducible refine (HP.out _).mono ?_);rintro e W1 ⟨u,rfl,hgl,hb1⟩;obtain⟨ga,gc,rfl⟩:=GS_form hgl;have H1:=Hd2 hgl hb1;clear hgl hb1))
 have hb1:Below N w W1:=hN▸H1.out.2
 have hNs:N≤W1.heap.size:=by have:=hb1.size;omega
 have hgl1:=H1.out.1
 clear hN
 obtain⟨D,hD⟩:∃D,D=W1.heap.size:=⟨_,rfl⟩
 rw[←hD]
 refine zb4 fun W2 hW2=>?_
 obtain⟨hL2,hg2⟩:=two_rows (W1.alloc (.cells #[.slice ga 1 gc] 24)) (D+1) (by simp[hD]) q1 W2 hW2
 have hal:=World.grownBy_alloc W1 (.cells #[.slice ga 1 gc] 24) none
 have hg12:=za2 hal hg2
 have y1:W2.cell? ⟨D,0,none⟩=some (.slice ga 1 gc):=hg2.cell (World.cell?_alloc_at _ _ _ _ hD) (by simp)
 have hb2:Below N w W2:=hb1.grown hg12 hNs (fun k e=>by cases e)
 have hb12:Below W1.heap.size W1 W2:=(Below.refl _ _).grown hg12 (Nat.le_refl _) (fun k e=>by cases e)
 have hgl2:=(hgl1.below hb12).mono hb12.size
 clear hW2 hg2 hal hg12
 refine (coverMake_walk GS (.slice ga 1 gc) 2 (.slice (some ⟨D+1+1+1,0,none⟩) 2 2) 2 (fun _=>2) q1 W2 hgl2 (by decide +kernel) hL2 (fun _ _=>by omega) (by omega)).mono ?_
 rintro e W3 ⟨hb3,c,u,rfl,herr,hu⟩
 obtain rfl:=err1 herr
 rcases hu with ⟨h,_⟩ | ⟨_,_,hgl3⟩
 ·exact absurd rfl h
 obtain⟨ga2,gc2,rfl⟩:∃a c,u=.slice a 2 c:=by
  obtain⟨a,_,_,cap,e,_⟩:=hgl3
  exact⟨a,cap,e⟩
 have y3:=(hb3.cell (p:=⟨D,0,none⟩) (za0 y1)).trans y1
 have hNs2:N≤W2.heap.size:=by have:=hb2.size;have:=HNN.out;omega
 have hb3':=hb2.trans (hb3.mono hNs2)
 have hgl3':=(hgl2.below hb3).mono hb3.size
 have y3a:=za4 y3
 have H3:=Hd2 hb3' hgl3'
 clear hD hb3 hb2 hb12 hgl2 hgl3 hgl1 hb1 hL2 y1 hb3' hgl3' herr
 go_wp2_with fail
 obtain⟨E,hE⟩:∃E,E=W3.heap.size:=⟨_,rfl⟩
 rw[←hE]
 refine zb4 fun W4 hW4=>?_
 obtain⟨hL4,hg4⟩:=two_rows (W3.alloc (.cells #[.slice ga2 2 gc2] 24)) (E+1) (by simp[hE]) q2 W4 hW4
 have hal3:=World.grownBy_alloc W3 (.cells #[.slice ga2 2 gc2] 24) none
 have hg34:=za2 hal3 hg4
 have hNs3:=H3.out.1.size
 have hb4:Below N w W4:=H3.out.1.grown hg34 (by have:=HNN.out;omega) (fun k e=>by cases e)
 have hb34:Below W3.heap.size W3 W4:=(Below.refl _ _).grown hg34 (Nat.le_refl _) (fun k e=>by cases e)
 have hgl4:=(H3.out.2.below hb34).mono hb34.size
 refine (coverCheck_walk GS (.slice ga 1 gc) 2 (.slice (some ⟨E+1+1+1,0,none⟩) 2 2) 2 (fun _=>2) q2 W4 hgl4 (by decide +kernel) hL4 (fun _ _=>by omega) (by omega)).mono ?_
 rintro e W5 ⟨hb5,c,rfl,herr⟩
 obtain rfl:=err2 herr
 have H5:=Lib.hid (hb4.trans (hb5.mono (by have:=hb4.size;have:=HNN.out;omega)))
 clear hW4 hL4 hg4 hal3 hg34 hb4 hb34 hgl4 hb5 herr hE
 go_wp2
 go_ret
 exact⟨rfl,H5.out⟩
end
end Go.Proofs.Ytlckpgahijlmoaa
