/- R11.Is: whether it is a covering. -/
import Derived.Test.YtlckpgahijlmoaaQ36
import Derived.Test.YtlckpgahijlmoaaQ20
import Derived.Test.YtlckpgahijlmoaaQ32
set_option maxRecDepth 100000
set_option maxHeartbeats 8000000
namespace Go.Proofs.Ytlckpgahijlmoaa
section
def sw01 (s:RS):RS:=(s.1,s.2.2.1,s.2.1,s.2.2.2.1,s.2.2.2.2)
def sw23 (s:RS):RS:=(s.1,s.2.1,s.2.2.1,s.2.2.2.2,s.2.2.2.1)
theorem sw01_sw (s:RS):sw01 (sw01 s)=s:=rfl
theorem sw23_sw (s:RS):sw23 (sw23 s)=s:=rfl
theorem sw23_ok {n:Nat}{s:RS}(h:Rok n s):Rok n (sw23 s):=by
 obtain⟨l1,l2,l3,l4⟩:=h.l
 obtain⟨d1,d2,d3,d4,d5,d6⟩:=h.d
 exact⟨h.t,⟨l1,l2,l4,l3⟩,⟨d1,d3,d2,d5,d4,d6.symm⟩⟩
theorem itr_sw01 (G:Gl)(s:RS):∀k,itr G 2 (sw01 s) k=(itr G 2 s k).map sw01
 | 0=>rfl
 | k+1=>by
  rw[itr,itr,itr_sw01 G s k]
  cases itr G 2 s k with
  | none=>rfl
  | some u=>
   show stp G 2 (sw01 u)=(stp G 2 u).map sw01
   unfold stp
   show (if G.tet (4*u.1+u.2.2.2.1)<0 then none else _)=Option.map sw01 (if G.tet (4*u.1+u.2.2.2.1)<0 then none else _)
   split<;>rfl
theorem itr_sw23 (G:Gl)(s:RS):∀k,itr G 2 (sw23 s) k=(itr G 3 s k).map sw23
 | 0=>rfl
 | k+1=>by
  rw[itr,itr,itr_sw23 G s k]
  cases itr G 3 s k with
  | none=>rfl
  | some u=>
   show stp G 2 (sw23 u)=(stp G 3 u).map sw23
   unfold stp
   show (if G.tet (4*u.1+u.2.2.2.2)<0 then none else _)=Option.map sw23 (if G.tet (4*u.1+u.2.2.2.2)<0 then none else _)
   split<;>rfl
theorem map_sw01 {o:Option RS}{s:RS}:o.map sw01=some (sw01 s)↔o=some s:=by
 cases o with
 | none=>simp
 | some u=>
  simp only[Option.map_some,Option.some.injEq]
  exact⟨fun h=>by rw[←sw01_sw u,h,sw01_sw],fun h=>by rw[h]⟩
theorem map_sw23 {o:Option RS}{s:RS}:o.map sw23=some (sw23 s)↔o=some s:=by
 cases o with
 | none=>simp
 | some u=>
  simp only[Option.map_some,Option.some.injEq]
  exact⟨fun h=>by rw[←sw23_sw u,h,sw23_sw],fun h=>by rw[h]⟩
section
variable {G:Gl}{f g:Nat→Nat→Int}{sh:Nat}
def Xs (G:Gl)(f g:Nat→Nat→Int)(u:RS)(x:Nat):Nat:=(crF G f g u.1 (rp u 2) x).toNat
def trn (G:Gl)(f g:Nat→Nat→Int)(s:RS):Nat→Nat→Nat
 | 0,i=>i
 | k+1,i=>match itr G 2 s k with
  | some u=>Xs G f g u (trn G f g s k i)
  | none=>trn G f g s k i
theorem trn_some {s u:RS}{k i:Nat}(h:itr G 2 s k=some u):trn G f g s (k+1) i=Xs G f g u (trn G f g s k i):=by
 simp only[trn,h]
theorem shA_trn {s:RS}{m:Nat}(h:itr G 2 s m=some s)(i:Nat):∀k,k≤m→shA G f g (pth G 2 s m) i k=trn G f g s k i
 | 0,_=>rfl
 | k+1,hk=>by
  obtain⟨u,hu⟩:=Option.ne_none_iff_exists'.1 (ring_all h k (by omega))
  rw[shA_step h (by omega) hu,trn_some hu,shA_trn h i k (by omega)];rfl
theorem ringOK_iff {s:RS}:ze1 G f g sh s↔∀m,0<m→itr G 2 s m=some s→(∀i,0<i→i<m→itr G 2 s i≠some s)→∀i,i<sh→trn G f g s m i=i:=by
 constructor
 ·intro h m h0 h1 h2 i hi
  rw[←shA_trn h1 i m (Nat.le_refl _)]
  exact h m h0 h1 h2 i hi
 ·intro h m h0 h1 h2 i hi
  rw[shA_trn h1 i m (Nat.le_refl _)]
  exact h m h0 h1 h2 i hi
theorem trn_sw01 (s:RS)(i:Nat):∀k,trn G f g (sw01 s) k i=trn G f g s k i
 | 0=>rfl
 | k+1=>by
  have ih:=trn_sw01 s i k
  cases h:itr G 2 s k with
  | none=>
   have h2:itr G 2 (sw01 s) k=none:=by rw[itr_sw01,h];rfl
   simp only[trn,h,h2,ih]
  | some u=>
   have h2:itr G 2 (sw01 s) k=some (sw01 u):=by rw[itr_sw01,h];rfl
   rw[trn_some h,trn_some h2,ih];rfl
theorem RG_sw01 {s:RS}(h:ze1 G f g sh s):ze1 G f g sh (sw01 s):=by
 rw[ringOK_iff] at h ⊢
 intro m h0 h1 h2 i hi
 rw[trn_sw01]
 exact h m h0 (map_sw01.1 (by rw[←itr_sw01];exact h1)) (fun j j0 jm e=>h2 j j0 jm (by rw[itr_sw01];exact map_sw01.2 e)) i hi
variable (hok:za9 G=true)(hS:Sh G sh f g)
include hok hS
theorem Xs_lt {u:RS}(hu:Rok G.n u)(ht:¬G.tet (4*u.1+rp u 2)<0){x:Nat}(hx:x<sh):Xs G f g u x<sh:=by
 have hr:=rp_lt hu 2
 have:=hu.t
 obtain⟨s',h1,h2,-⟩:=cr_back hok hS (show 4*u.1+rp u 2<4*G.n by omega) ht hx
 rw[show (4*u.1+rp u 2) / 4=u.1 by omega,show (4*u.1+rp u 2) % 4=rp u 2 by omega] at h1
 unfold Xs;rw[h1];simpa using h2
theorem Xs_back {u z:RS}(hu:Rok G.n u)(hz:stp G 2 u=some z){x:Nat}(hx:x<sh):Xs G f g u x<sh∧Xs G f g (sw23 z) (Xs G f g u x)=x:=by
 have hr:=rp_lt hu 2
 have ht:=hu.t
 have hn:¬G.tet (4*u.1+rp u 2)<0:=fun h=>by unfold stp at hz;rw[if_pos h] at hz;cases hz
 refine⟨Xs_lt hok hS hu hn hx,?_⟩
 obtain⟨s',h1,h2,h3⟩:=cr_back hok hS (show 4*u.1+rp u 2<4*G.n by omega) hn hx
 rw[show (4*u.1+rp u 2) / 4=u.1 by omega,show (4*u.1+rp u 2) % 4=rp u 2 by omega] at h1
 have e1:Xs G f g u x=s':=by unfold Xs;rw[h1];simp
 obtain⟨f1,f2,f3,f4,f5,f6,f7⟩:=zd5 hok (show 4*u.1+rp u 2<4*G.n by omega) hn
 unfold stp at hz
 rw[if_neg hn] at hz
 injection hz with hz
 have e2:z.1=tb G (4*u.1+rp u 2) / 4:=by rw[←hz,f5]
 have e3:rp (sw23 z) 2=tb G (4*u.1+rp u 2) % 4:=by
  rw[f6,←hz,show (4*u.1+rp u 2) % 4=rp u 2 by omega];rfl
 show (crF G f g z.1 (rp (sw23 z) 2) (Xs G f g u x)).toNat=x
 rw[e2,e3,e1,h3];simp
theorem Xs_surj {u z:RS}(hu:Rok G.n u)(hz:stp G 2 u=some z){y:Nat}(hy:y<sh):∃x,x<sh∧Xs G f g u x=y:=
 surj_of_inj sh (Xs G f g u) (fun i hi=>(Xs_back hok hS hu hz hi).1) (fun i j hi hj e=>by
  have h1:=(Xs_back hok hS hu hz hi).2
  have h2:=(Xs_back hok hS hu hz hj).2
  rw[e,h2] at h1;exact h1.symm) y hy
theorem trn_lt {s:RS}(hs:Rok G.n s){m:Nat}(hm:itr G 2 s m≠none){i:Nat}(hi:i<sh):∀k,k≤m→trn G f g s k i<sh
 | 0,_=>hi
 | k+1,hk=>by
  obtain⟨z,hz⟩:∃z,itr G 2 s (k+1)=some z:=Option.ne_none_iff_exists'.1 (fun e=>hm (zg9 e hk))
  obtain⟨u,hu⟩:∃u,itr G 2 s k=some u:=Option.ne_none_iff_exists'.1 (fun e=>hm (zg9 e (by omega)))
  rw[trn_some hu]
  have hst:stp G 2 u=some z:=by rw[itr,hu] at hz;exact hz
  exact (Xs_back hok hS (zf7 hok hs hu) hst (trn_lt hs hm hi k (by omega))).1
theorem RG_sw23 {s:RS}(hs:Rok G.n s)(h:ze1 G f g sh s):ze1 G f g sh (sw23 s):=by
 rw[ringOK_iff] at h ⊢
 intro m h0 h1 h2
 have h3:itr G 3 s m=some s:=map_sw23.1 (by rw[←itr_sw23];exact h1)
 have h4:itr G 2 s m=some s:=itr_back hok (.inr ⟨rfl,rfl⟩) hs h3
 have h5:∀i,0<i→i<m→itr G 2 s i≠some s:=fun i i0 im e=>h2 i i0 im (by
  rw[itr_sw23];exact map_sw23.2 (itr_back hok (.inl ⟨rfl,rfl⟩) hs e))
 have h6:=h m h0 h4 h5
 have hall:=ring_all h4
 have key:∀i,i<sh→∀k,k≤m→trn G f g (sw23 s) k (trn G f g s m i)=trn G f g s (m-k) i:=fun i hi k=>by
  induction k with
  | zero=>intro _;rfl
  | succ k ih=>
   intro hk
   obtain⟨u,hu⟩:∃u,itr G 2 s (m-(k+1))=some u:=Option.ne_none_iff_exists'.1 (hall _ (by omega))
   obtain⟨z,hz⟩:∃z,itr G 2 s (m-k)=some z:=by
    by_cases e:k=0
    ·subst e;exact⟨s,h4⟩
    ·exact Option.ne_none_iff_exists'.1 (hall _ (by omega))
   have hst:stp G 2 u=some z:=by
    have:m-k=(m-(k+1))+1:=by omega
    rw[this,itr,hu] at hz;exact hz
   have hz2:itr G 2 z k=some s:=by
    have:=itr_add G 2 s (m-k) k
    rw[show m-k+k=m by omega,h4,hz] at this
    exact this.symm
   have hz3:itr G 3 s k=some z:=itr_back hok (.inl ⟨rfl,rfl⟩) (zf7 hok hs hz) hz2
   have hz4:itr G 2 (sw23 s) k=some (sw23 z):=by rw[itr_sw23,hz3];rfl
   rw[trn_some hz4,ih (by omega),show m-k=(m-(k+1))+1 by omega,trn_some hu]
   exact (Xs_back hok hS (zf7 hok hs hu) hst (trn_lt hok hS hs (m:=m) (by rw[h4];simp) hi _ (by omega))).2
 intro i hi
 have:=key i hi m (Nat.le_refl _)
 rw[h6 i hi,Nat.sub_self] at this
 exact this
theorem trn_next {s z:RS}(hz:stp G 2 s=some z){m:Nat}(hm:∀k,k≤m→itr G 2 s k≠none)(i:Nat):∀k,k<m→trn G f g z k (Xs G f g s i)=trn G f g s (k+1) i:=by
 have _:=hok
 have _:=hS
 have h1:itr G 2 s 1=some z:=by rw[itr];exact hz
 intro k
 induction k with
 | zero=>intro _;rw[trn_some (show itr G 2 s 0=some s from rfl)];rfl
 | succ k ih=>
  intro hk
  obtain⟨u,hu⟩:=Option.ne_none_iff_exists'.1 (hm (k+1) (by omega))
  have hzu:itr G 2 z k=some u:=by
   have:=itr_add G 2 s 1 k
   rw[show 1+k=k+1 by omega,hu,h1] at this
   exact this.symm
  rw[trn_some hzu,ih (by omega),trn_some hu]
theorem RG_stp {s z:RS}(hs:Rok G.n s)(hz:stp G 2 s=some z)(h:ze1 G f g sh s):ze1 G f g sh z:=by
 rw[ringOK_iff] at h ⊢
 intro m h0 h1 h2
 have hzo:=stp_ok hok hs hz
 have e1:itr G 2 s 1=some z:=by rw[itr];exact hz
 have nx:∀k u,itr G 2 s k=some u→(itr G 2 z k=stp G 2 u):=fun k u hu=>by
  have h3:=itr_add G 2 s 1 k
  rw[e1,show 1+k=k+1 by omega,itr,hu] at h3
  exact h3.symm
 have back:∀k,itr G 2 z k=some z→itr G 2 s k=some s:=fun k hk=>by
  have h3:itr G 3 z 1=some s:=itr_back hok (.inl ⟨rfl,rfl⟩) hs e1
  have h4:itr G 3 z k=some z:=itr_back hok (.inl ⟨rfl,rfl⟩) hzo hk
  have h5:itr G 3 z (1+k)=itr G 3 s k:=by rw[itr_add,h3];rfl
  have h6:itr G 3 z (k+1)=some s:=by
   rw[itr_add,h4];exact h3
  rw[show 1+k=k+1 by omega,h6] at h5
  exact itr_back hok (.inr ⟨rfl,rfl⟩) hs h5.symm
 have h3:=back m h1
 have h4:∀i,0<i→i<m→itr G 2 s i≠some s:=fun i i0 im e=>h2 i i0 im (by rw[nx i s e];exact hz)
 have h5:=h m h0 h3 h4
 intro y hy
 obtain⟨x,hx,rfl⟩:=Xs_surj hok hS hs hz hy
 have hall:∀k,k≤m+1→itr G 2 s k≠none:=fun k hk e=>by
  have:itr G 2 s (m+1)=some z:=by rw[itr,h3];exact hz
  rw[zg9 e hk] at this;cases this
 rw[trn_next hok hS hz hall x m (by omega),trn_some h3,h5 x hx]
theorem RG_itr {s u:RS}(hs:Rok G.n s){k:Nat}(hu:itr G 2 s k=some u)(h:ze1 G f g sh s):ze1 G f g sh u:=by
 induction k generalizing u with
 | zero=>rw[itr] at hu;injection hu with hu;subst hu;exact h
 | succ k ih=>
  cases hx:itr G 2 s k with
  | none=>rw[itr,hx] at hu;cases hu
  | some x=>
   have:stp G 2 x=some u:=by rw[itr,hx] at hu;exact hu
   exact RG_stp hok hS (zf7 hok hs hx) this (ih hx)
theorem RG_stp_iff {s z:RS}(hs:Rok G.n s)(hz:stp G 2 s=some z):ze1 G f g sh s↔ze1 G f g sh z:=by
 refine⟨RG_stp hok hS hs hz,fun h=>?_⟩
 obtain⟨k,h0,h1,h2 | h2⟩:=itr_ends hok (.inl ⟨rfl,rfl⟩) hs
 ·exact ring_open h2
 ·have e1:itr G 2 s 1=some z:=by rw[itr];exact hz
  have:=itr_add G 2 s 1 (k-1)
  rw[show 1+(k-1)=k by omega,h2,e1] at this
  exact RG_itr hok hS (stp_ok hok hs hz) this.symm h
theorem RG_sw01_iff {s:RS}:ze1 G f g sh (sw01 s)↔ze1 G f g sh s:=by
 have _:=hok
 have _:=hS
 exact⟨fun h=>by have:=RG_sw01 h;rwa [sw01_sw] at this,RG_sw01⟩
theorem RG_sw23_iff {s:RS}(hs:Rok G.n s):ze1 G f g sh (sw23 s)↔ze1 G f g sh s:=
 ⟨fun h=>by have:=RG_sw23 hok hS (sw23_ok hs) h;rwa [sw23_sw] at this,RG_sw23 hok hS hs⟩
end
theorem frame_dec:∀a b c d:Fin 4,dist4 a b c d →
  (frC (edN a b) 4 0,frC (edN a b) 4 1,frC (edN a b) 4 2,frC (edN a b) 4 3)=((a:Nat),(b:Nat),(c:Nat),(d:Nat))∨(frC (edN a b) 4 0,frC (edN a b) 4 1,frC (edN a b) 4 2,frC (edN a b) 4 3)=((b:Nat),(a:Nat),(c:Nat),(d:Nat)) ∨
  (frC (edN a b) 4 0,frC (edN a b) 4 1,frC (edN a b) 4 2,frC (edN a b) 4 3)=((a:Nat),(b:Nat),(d:Nat),(c:Nat))∨(frC (edN a b) 4 0,frC (edN a b) 4 1,frC (edN a b) 4 2,frC (edN a b) 4 3)=((b:Nat),(a:Nat),(d:Nat),(c:Nat)):=by decide +kernel
section
variable {G:Gl}{f g:Nat→Nat→Int}{sh:Nat}(hok:za9 G=true)(hS:Sh G sh f g)
include hok hS
theorem RG_frame {u:RS}(hu:Rok G.n u):ze1 G f g sh u↔ze1 G f g sh (frS u.1 (edN u.2.1 u.2.2.1)):=by
 obtain⟨t,a,b,c,d⟩:=u
 obtain⟨l1,l2,l3,l4⟩:=hu.l
 have key:=frame_dec ⟨a,l1⟩ ⟨b,l2⟩ ⟨c,l3⟩ ⟨d,l4⟩ hu.d
 simp only[Prod.mk.injEq] at key
 show _↔ze1 G f g sh (t,frC (edN a b) 4 0,frC (edN a b) 4 1,frC (edN a b) 4 2,frC (edN a b) 4 3)
 rcases key with ⟨k0,k1,k2,k3⟩ | ⟨k0,k1,k2,k3⟩ | ⟨k0,k1,k2,k3⟩ | ⟨k0,k1,k2,k3⟩<;>rw[k0,k1,k2,k3]
 ·exact (RG_sw01_iff hok hS (s:=(t,a,b,c,d))).symm
 ·exact (RG_sw23_iff hok hS hu).symm
 ·exact ((RG_sw01_iff hok hS (s:=(t,a,b,d,c))).trans (RG_sw23_iff hok hS hu)).symm
end
end
section
open Go.RowKit Go.Shelf
def IsP (G:Gl)(S:Int)(np:Nat)(len:Nat→Nat)(fp:Nat→Nat→Int):Prop:=ShP G S np len fp∧∀q,q<6*G.n→ze1 G fp (fun k=>invP (fp k) S.toNat) S.toNat (frS (q / 6) (q % 6))
structure ISB (w W:World)(N D:Nat)(G:Gl)(ga:Option Addr)(gc s:Nat)(pa:Option Addr)(pc:Nat)(va:Option Addr)(vc:Nat)(ea:Option Addr)(ec:Nat)(ta:Option Addr)(tc:Nat)(da:Option Addr)(dn dc:Nat)(ra:Option Addr)(rn rc:Nat)(la:Option Addr)(ln lc:Nat)(fp:Nat→Nat→Int):Prop where
 bel:Below N w W
 c0:W.cell? ⟨N,0,none⟩=some (.slice ga G.n gc)
 c1:W.cell? ⟨N+1,0,none⟩=some (.int .i64 (s:Int))
 c2:W.cell? ⟨N+1,1,none⟩=some (.slice pa (nF G) pc)
 d0:W.cell? ⟨D,0,none⟩=some (.slice va G.n vc)
 d1:W.cell? ⟨D,1,none⟩=some (.slice ea G.n ec)
 d2:W.cell? ⟨D,2,none⟩=some (.slice ta G.n tc)
 d3:W.cell? ⟨D,3,none⟩=some (.slice da dn dc)
 d4:W.cell? ⟨D,4,none⟩=some (.slice ra rn rc)
 d5:W.cell? ⟨D,5,none⟩=some (.slice la ln lc)
 g:GlAt W.heap.size W (.slice ga G.n gc) G
 sk:SKV W.heap.size W (.agg #[.slice va G.n vc,.slice ea G.n ec,.slice ta G.n tc,.slice da dn dc,.slice ra rn rc,.slice la ln lc]) G
 p:LLs W.heap.size W (.slice pa (nF G) pc) (nF G) (fun _=>s) fp
 lt:N<W.heap.size
theorem ISB.below {w W W':World}{N D:Nat}{G:Gl}{ga:Option Addr}{gc s:Nat}{pa:Option Addr}{pc:Nat}{va:Option Addr}{vc:Nat}{ea:Option Addr}{ec:Nat}{ta:Option Addr}{tc:Nat}{da:Option Addr}{dn dc:Nat}{ra:Option Addr}{rn rc:Nat}{la:Option Addr}{ln lc:Nat}{fp:Nat→Nat→Int}
  (h:ISB w W N D G ga gc s pa pc va vc ea ec ta tc da dn dc ra rn rc la ln lc fp) (hb:Below W.heap.size W W'):ISB w W' N D G ga gc s pa pc va vc ea ec ta tc da dn dc ra rn rc la ln lc fp:=by
 have hg:=za6 hb (Nat.le_refl _) none
 have:=h.lt
 have:=hb.size
 exact⟨h.bel.trans (hb.mono (by omega)),hg.cell h.c0 (by simp),hg.cell h.c1 (by simp),hg.cell h.c2 (by simp),hg.cell h.d0 (by simp),hg.cell h.d1 (by simp),hg.cell h.d2 (by simp),hg.cell h.d3 (by simp),hg.cell h.d4 (by simp),hg.cell h.d5 (by simp),(h.g.below hb).mono hb.size,(h.sk.below hb).mono hb.size,(h.p.below hb).mono hb.size,by omega⟩
theorem ris_walk {G:Gl}(hok:za9 G=true)(S:Int)(np:Nat)(len:Nat→Nat)(fp:Nat→Nat→Int)(v pv:Value)(w:World)(hG:GlAt w.heap.size w v G)(hp:LLc w.heap.size w pv np len fp)(hlen:∀k,k<np→len k<4611686018427387904)(hnp:np<4611686018427387904) :
  Calls Try.prog 52 #[.agg #[v],.agg #[.int .i64 S,pv]] w fun e w'=>e=.returned (.bool (boolOf (IsP G S np len fp)))∧Below w.heap.size w w':=by
 have hn:=zg5 hok
 have HOK:=Lib.hid hok
 have HG:=Hd3 hG hp hlen
 obtain⟨ga,gc,rfl⟩:∃a c,v=.slice a G.n c:=by obtain⟨a,_,_,cap,e,_⟩:=hG;exact⟨a,cap,e⟩
 obtain⟨pa,pc,rfl⟩:∃a c,pv=.slice a np c:=by obtain⟨a,_,_,cap,e,_⟩:=hp;exact⟨a,cap,e⟩
 clear hG hp hlen
 obtain⟨N,hN⟩:∃N,N=w.heap.size:=⟨_,rfl⟩
 have HN:=Lib.hid hN
 go_enter Try.func52,Try.ntmps52
 go_wp2_with fail
 rw[←hN]
 refine zb4 fun W0 hW=>?_
 have h0:Below N w W0∧W0.cell? ⟨N,0,none⟩=some (.slice ga G.n gc)∧W0.cell? ⟨N+1,0,none⟩=some (.int .i64 S)∧W0.cell? ⟨N+1,1,none⟩=some (.slice pa np pc)∧W0.heap.size=N+2:=by
  rw[hW,hN];exact⟨by (repeat' (first | assumption | exact Below.refl _ _ | refine za7 ?_ (by assumption) | refine zb2 ?_ _ | refine za5 ?_ | refine zb1 ?_ (by simp<;>omega) _)),by simp[go_sem],by simp[go_sem],by simp[go_sem],by simp⟩
 obtain⟨hb,c0,c1,c2,hz⟩:=h0
 have hbw:Below w.heap.size w W0:=by rw[←hN];exact hb
 refine (rskeleton_walk G (.slice ga G.n gc) W0 ((HG.out.1.below hbw).mono hbw.size) hok).mono ?_
 rintro e W1 ⟨sv,rfl,hsk,hb1⟩
 obtain⟨va,vc,ea,ec,ta,b,tc,da,dn,dc,ra,rn,rc,la,ln,lc,rfl,hta,htri⟩:=hsk.skv
 have hsv:SKV W1.heap.size W1 (.agg #[.slice va G.n vc,.slice ea G.n ec,.slice ta G.n tc,.slice da dn dc,.slice ra rn rc,.slice la ln lc]) G:=⟨va,vc,ea,ec,ta,b,tc,da,dn,dc,ra,rn,rc,la,ln,lc,rfl,hta,htri⟩
 have hg1:=za6 hb1 (Nat.le_refl _) none
 have k0:=hg1.cell c0 (by simp)
 have k1:=hg1.cell c1 (by simp)
 have k2:=hg1.cell c2 (by simp)
 have k0a:=za4 k0
 have k1a:=za4 k1
 have k2a:=za4 k2
 have hbw1:Below N w W1:=hb.trans (hb1.mono (by omega))
 have hz1:N+2≤W1.heap.size:=by have:=hb1.size;omega
 have H1:=Hd5 hbw1 hsv k0 k1 k2
 clear hW hN hb hb1 c0 c1 c2 hz hbw hok hsk hta htri hsv hg1 k0 k1 k2 hbw1
 go_wp2_with fail
 obtain⟨D,hD⟩:∃D,D=W1.heap.size:=⟨_,rfl⟩
 rw[←hD]
 refine zb4 fun W2 hW=>?_
 have h2:Below W1.heap.size W1 W2∧W2.cell? ⟨D,0,none⟩=some (.slice va G.n vc)∧W2.cell? ⟨D,1,none⟩=some (.slice ea G.n ec)∧W2.cell? ⟨D,2,none⟩=some (.slice ta G.n tc)∧W2.cell? ⟨D,3,none⟩=some (.slice da dn dc)∧W2.cell? ⟨D,4,none⟩=some (.slice ra rn rc)∧W2.cell? ⟨D,5,none⟩=some (.slice la ln lc):=by
  rw[hW,hD];exact⟨(Below.refl _ _).alloc (Nat.le_refl _) _,by simp[go_sem],by simp[go_sem],by simp[go_sem],by simp[go_sem],by simp[go_sem],by simp[go_sem]⟩
 obtain⟨hb2,d0,d1,d2,d3,d4,d5⟩:=h2
 have hbN2:Below N w W2:=H1.out.1.trans (hb2.mono (by omega))
 have hbW2:Below w.heap.size w W2:=by rw[←HN.out];exact hbN2
 have hsk2:=(H1.out.2.1.below hb2).mono hb2.size
 have hg2:=(HG.out.1.below hbW2).mono hbW2.size
 have hp2:=(HG.out.2.1.below hbW2).mono hbW2.size
 have hgr:=za6 hb2 (Nat.le_refl _) none
 have x0:=hgr.cell H1.out.2.2.1 (by simp)
 have x1:=hgr.cell H1.out.2.2.2.1 (by simp)
 have x2:=hgr.cell H1.out.2.2.2.2 (by simp)
 have hz2:N+2≤W2.heap.size:=by have:=hb2.size;omega
 refine (rshaped_walk HOK.out S np len fp (.slice ga G.n gc) _ (.slice pa np pc) W2 hg2 hsk2 hp2 HG.out.2.2 hnp).mono ?_
 rintro e W3 ⟨rfl,hb3⟩
 by_cases hsh:ShP G S np len fp
 ·obtain⟨s,rfl⟩:∃s:Nat,S=s:=⟨S.toNat,by have:=hsh.lo;omega⟩
  have hls:∀m,m<np→len m=s:=fun m hm=>by
   have:=(zf1 (hsh.perms m hm)).1;omega
  have hnum:=hsh.num
  subst hnum
  have hIS2:ISB w W2 N D G ga gc s pa pc va vc ea ec ta tc da dn dc ra rn rc la ln lc fp:=⟨hbN2,x0,x1,x2,d0,d1,d2,d3,d4,d5,hg2,hsk2,hp2.LLs.lens hls,by omega⟩
  have hIS:=hIS2.below hb3
  have hlo:=hsh.lo
  have hhi:=hsh.hi
  have hS:Sh G s fp (fun k=>invP (fp k) s):=sh_of hsh.perms
  have HS:=Hd3 hsh hIS hS
  rw[boolOf_true hsh]
  have y0:=hIS.c0
  clear hsh hIS hIS2 hS hls hW hD hb2 hb3 d0 d1 d2 d3 d4 d5 hbN2 hbW2 hsk2 hg2 hp2 hgr x0 x1 x2 hz2 k0a k1a k2a H1 hz1
  go_wp2
  go_loopw [30] (fun i wr=>∃t:Nat,t≤G.n∧i=.int .i64 t∧(∀q,q<6*t→ze1 G fp (fun k=>invP (fp k) s) s (frS (q / 6) (q % 6)))∧Below W3.heap.size W3 wr) (fun i _=>G.n-(intOf i).toNat)
  case atStart=>exact⟨0,by omega,rfl,fun q hq=>by omega,Below.refl _ _⟩
  case round=>
   obtain⟨t,ht,rfl,hall,hbz⟩:=hrel
   have HA:=Hd2 hall hbz
   clear hall hbz
   rcases Nat.lt_or_ge t G.n with htn | htn
   ·go_wp2
    go_loopw [7] (fun i wr=>∃e:Nat,e≤6∧i=.int .i64 e∧(∀q,q<6*t+e→ze1 G fp (fun k=>invP (fp k) s) s (frS (q / 6) (q % 6)))∧Below W3.heap.size W3 wr) (fun i _=>6-(intOf i).toNat)
    case atStart=>exact⟨0,by omega,rfl,HA.out⟩
    case round=>
     clear HA
     obtain⟨e,he,rfl,hall,hbz⟩:=hrel
     have HA:=Hd2 hall hbz
     have hI:=HS.out.2.1.below hbz
     have HI:=Lib.hid hI
     clear hall hbz hI
     rcases Nat.lt_or_ge e 6 with he6 | he6
     ·obtain⟨V,hV⟩:∃V,V=wr:=⟨_,rfl⟩
      subst hV
      have HEN:=Lib.hid (rends_walk e he6)
      go_wp2_with (go_at_call 90;(with_reducible refine (HEN.out _).mono ?_);rintro x w5 ⟨rfl,h5⟩;obtain rfl:=h5.symm)
      refine zb3 fun W5 hW=>?_
      obtain⟨M,hM⟩:∃M,M=V.heap.size:=⟨_,rfl⟩
      rw[←hM]
      have hr:W5.rowIs M 85 4 (fun i=>.int .i64 (frC e 0 i:Nat)):=by
       rw[hW,hM]
       refine World.rowIs_alloc V #[.int .i64 (pA e:Nat),.int .i64 (pB e:Nat),.int .i64 0,.int .i64 0] 85 _ (fun i hi=>?_)
       have:i=0∨i=1∨i=2∨i=3:=by simp at hi;omega
       rcases this with rfl | rfl | rfl | rfl<;>simp[frC]
      have hg:V.grownBy W5 none:=by rw[hW];exact World.grownBy_alloc V _ none
      have H5:=Hd2 hr hg
      have HM:=Lib.hid hM
      clear hW hr hg hM
      have hfa:frAt e 0=2:=by simp[frAt]
      go_loopw [11,12] (fun a i wz=>∃k:Nat,k≤4∧i=.int .i64 k∧a=.int .i64 (frAt e k:Nat)∧wz.rowIs M 85 4 (fun i=>.int .i64 (frC e k i:Nat))∧V.grownBy wz (some M)) (fun _ i _=>4-(intOf i).toNat)
      case atStart=>exact⟨0,by omega,rfl,by simp[hfa],H5.out.1,grown_any H5.out.2 _⟩
      case round=>
       clear H5 hfa
       obtain⟨k,hk,rfl,rfl,hr,hg⟩:=hrel
       rcases Nat.lt_or_ge k 4 with hk4 | hk4
       ·have hlt:=frAt_lt e he6 k hk4
        have hsu:=frAt_succ e k
        have hcc:∀i,frC e (k+1) i=if k≠pA e∧k≠pB e then (if i=frAt e k then k else frC e k i) else frC e k i:=fun i=>by
         show (if k≠pA e∧k≠pB e then fun i=>if i=frAt e k then k else frC e k i else frC e k) i=_
         split<;>rfl
        obtain⟨A,hA⟩:∃A,A=frAt e k:=⟨_,rfl⟩
        rw[←hA] at hlt hsu hcc ⊢
        have HK:=Hd4 hr hg hsu hcc
        obtain⟨PA,hPA⟩:∃PA,PA=pA e:=⟨_,rfl⟩
        obtain⟨PB,hPB⟩:∃PB,PB=pB e:=⟨_,rfl⟩
        rw[←hPA,←hPB] at hlt HK ⊢
        have HPP:=Hd2 hPA hPB
        clear hg hsu hcc hPA hPB hA
        by_cases h1:k=PA
        ·have q1:((k:Int) !=(PA:Int))=false:=by rw[←h1];simp
         have HH:=Lib.hid h1
         clear h1 hlt hr
         go_wp2
         obtain⟨r1,r2,r3,r4⟩:=HK.out
         rw[if_neg (fun h=>h.1 HH.out)] at r3
         exact⟨⟨k+1,by omega,by simp,by rw[r3],r1.congr (fun i _=>by rw[r4,if_neg (fun h=>h.1 HH.out)]),r2⟩,by simp[intOf];omega⟩
        ·by_cases h2:k=PB
         ·have q1:((k:Int) !=(PA:Int))=true:=by simp;omega
          have q2:((k:Int) !=(PB:Int))=false:=by rw[←h2];simp
          have HH:=Lib.hid h2
          clear h1 h2 hlt hr
          go_wp2
          obtain⟨r1,r2,r3,r4⟩:=HK.out
          rw[if_neg (fun h=>h.2 HH.out)] at r3
          exact⟨⟨k+1,by omega,by simp,by rw[r3],r1.congr (fun i _=>by rw[r4,if_neg (fun h=>h.2 HH.out)]),r2⟩,by simp[intOf];omega⟩
         ·have q1:((k:Int) !=(PA:Int))=true:=by simp;omega
          have q2:((k:Int) !=(PB:Int))=true:=by simp;omega
          have hA4:=hlt h1 h2
          have HH:=Hd2 h1 h2
          have hc:=hr.cell hA4
          have hf:=hr.frozen A
          have A0:0≤(A:Int):=by omega
          have A4:(A:Int)<4:=by omega
          clear h1 h2 hlt hr
          go_wp2
          obtain⟨r1,r2,r3,r4⟩:=HK.out
          rw[if_pos HH.out] at r3
          refine⟨⟨k+1,by omega,by simp,by rw[r3];simp,(r1.set A _).congr (fun i _=>?_),za2 r2 (za1 _ _ _ _)⟩,by simp[intOf];omega⟩
          rw[r4,if_pos HH.out]
          by_cases q:i=A<;>simp[q]
       ·obtain rfl:k=4:=by omega
        have e0:=hr.cell (i:=0) (by omega)
        have e1:=hr.cell (i:=1) (by omega)
        have e2:=hr.cell (i:=2) (by omega)
        have e3:=hr.cell (i:=3) (by omega)
        have hVM:Below V.heap.size V wr:=(Below.refl _ V).grown hg (Nat.le_refl _) (fun k q=>by cases q;have:=HM.out;omega)
        have hI6:=HI.out.below hVM
        have y0:=hI6.c0
        have h3w:Below W3.heap.size W3 wr:=HA.out.2.trans (hVM.mono HA.out.2.size)
        have H6:=Hd2 hI6 h3w
        have hR:=rring_walk HOK.out (frS_ok (n:=G.n) htn he6) (.slice ga G.n gc) wr hI6.g
        have HRR:=Lib.hid hR
        obtain⟨z0,hz0⟩:∃z,z=frC e 4 0:=⟨_,rfl⟩
        obtain⟨z1,hz1⟩:∃z,z=frC e 4 1:=⟨_,rfl⟩
        obtain⟨z2,hz2⟩:∃z,z=frC e 4 2:=⟨_,rfl⟩
        obtain⟨z3,hz3⟩:∃z,z=frC e 4 3:=⟨_,rfl⟩
        have hR2:Calls Try.prog 93 #[.agg #[.slice ga G.n gc],.int .i64 (t:Int),.agg #[.int .i64 (z0:Int),.int .i64 (z1:Int),.int .i64 (z2:Int),.int .i64 (z3:Int)]] wr (RingAns G (frS t e) wr):=by
         rw[hz0,hz1,hz2,hz3];exact hR
        rw[←hz0] at e0
        rw[←hz1] at e1
        rw[←hz2] at e2
        rw[←hz3] at e3
        have HR2:=Lib.hid hR2
        clear hR hR2 hz0 hz1 hz2 hz3 hr hg hVM hI6 HRR h3w
        go_wp2_with fail
        refine HR2.out.mono ?_
        rintro x W7 ⟨hb7,rv,cl,rfl,hcl,hop⟩
        have hI7:=H6.out.1.below hb7
        have h3w7:Below W3.heap.size W3 W7:=H6.out.2.trans (hb7.mono H6.out.2.size)
        cases cl with
        | false=>
         obtain⟨m0,hm0⟩:=hop rfl
         have HRK:=Lib.hid (ring_open (f:=fp) (g:=fun k=>invP (fp k) s) (sh:=s) hm0)
         have H7:=Lib.hid h3w7
         have c1:=hI7.c1
         clear hcl hop hm0 hI7 h3w7 hb7
         go_wp2
         go_loopw [16] (fun a wz=>a=.int .i64 0∧wz=W7) (fun _ _=>0)
         case atStart=>exact⟨rfl,rfl⟩
         case round=>
          obtain⟨rfl,rfl⟩:=hrel
          go_wp2
          exact⟨⟨e+1,by omega,by simp,fun q hq=>by
           rcases Nat.lt_or_ge q (6*t+e) with h | h
           ·exact HA.out.1 q h
           ·rw[show q / 6=t by omega,show q % 6=e by omega];exact HRK.out,H7.out⟩,by simp[intOf];omega⟩
        | true=>
         obtain⟨m,hm0,hm1,hm2,hown⟩:=hcl rfl
         obtain⟨g,gcp,rfl,-⟩:=hown.form (by omega)
         have hml:=ring_len HOK.out (frS_ok (n:=G.n) htn he6) hm1 hm2
         have H7:=Hd6 h3w7 hI7 hm0 hm1 hm2 hown
         have c1:=hI7.c1
         clear hcl hop hm0 hm1 hm2 hown hI7 h3w7 hb7
         go_wp2
         go_loopw [16] (fun a wz=>∃i:Nat,i≤s∧a=.int .i64 i∧(∀x,x<i→shA G fp (fun k=>invP (fp k) s) (pth G 2 (frS t e) m) x m=x)∧Below W7.heap.size W7 wz) (fun a _=>s-(intOf a).toNat)
         case atStart=>exact⟨0,by omega,rfl,fun x hx=>by omega,Below.refl _ _⟩
         case round=>
          obtain⟨i,hi,rfl,hgd,hbz⟩:=hrel
          have HGD:=Hd2 hgd hbz
          have hI8:=H7.out.2.1.below hbz
          have HI8:=Lib.hid hI8
          have c1:=hI8.c1
          clear hgd hbz hI8
          rcases Nat.lt_or_ge i s with his | his
          ·obtain⟨V8,hV8⟩:∃V8,V8=wr:=⟨_,rfl⟩
           subst hV8
           go_wp2
           go_loopw [17,82] (fun a j wz=>∃k:Nat,k≤m∧j=.int .i64 k∧a=.int .i64 (shA G fp (fun k=>invP (fp k) s) (pth G 2 (frS t e) m) i k:Nat)∧Below V8.heap.size V8 wz) (fun _ j _=>m-(intOf j).toNat)
           case atStart=>exact⟨0,by omega,rfl,rfl,Below.refl _ _⟩
           case round=>
            obtain⟨k,hk,rfl,rfl,hbz⟩:=hrel
            have hI9:=HI8.out.below hbz
            have HI9:=Hd2 hI9 hbz
            rcases Nat.lt_or_ge k m with hkm | hkm
            ·obtain⟨u,hu⟩:=Option.ne_none_iff_exists'.1 (ring_all H7.out.2.2.2.1 k hkm)
             have hpg:=(pth_get (ring_all H7.out.2.2.2.1) k hkm).trans hu
             have hb79:Below W7.heap.size W7 wr:=HGD.out.2.trans (hbz.mono HGD.out.2.size)
             have hown:=H7.out.2.2.2.2.2.kept (za6 hb79 (Nat.le_refl _) none) (Or.inr (by simp[Value.ownBlock]))
             obtain⟨b0,b1,b2,b3,b4⟩:=own_ring hown hpg
             have hul:=zf7 HOK.out (frS_ok (n:=G.n) htn he6) hu
             have hif:InSh (nF G) s fp:=fun k hk i hi=>by obtain⟨j,h1,h2⟩:=HS.out.2.2.fr k i hk hi;omega
             have hig:InSh (nF G) s (fun k=>invP (fp k) s):=fun k hk i hi=>by
              obtain⟨j,h1,h2⟩:=HS.out.2.2.gr k i hk hi
              have h3:invP (fp k) s i=j:=h1
              show 0≤invP (fp k) s i∧invP (fp k) s i<s
              omega
             have hxs:=shA_lt HOK.out hif hig (xs:=pth G 2 (frS t e) m) (fun x hx=>by
              obtain⟨j,_,hj⟩:=List.mem_filterMap.1 hx
              exact zf7 HOK.out (frS_ok (n:=G.n) htn he6) hj) his k
             obtain⟨hc1,hc2⟩:=crF_lt HOK.out hif hig hul.t (rp_lt hul 2) hxs
             have hst:=shA_step (f:=fp) (g:=fun k=>invP (fp k) s) (i:=i) H7.out.2.2.2.1 hkm hu
             obtain⟨x,hx⟩:∃x,x=shA G fp (fun k=>invP (fp k) s) (pth G 2 (frS t e) m) i k:=⟨_,rfl⟩
             rw[←hx] at hxs hc1 hst ⊢
             obtain⟨y,hy⟩:∃y,y=(crF G fp (fun k=>invP (fp k) s) u.1 (rp u 2) x).toNat:=⟨_,rfl⟩
             rw[←hy] at hc1 hst
             have call:∀W,Below wr.heap.size wr W→Calls Try.prog 55 #[.agg #[.slice ga G.n gc],.agg #[.slice va G.n vc,.slice ea G.n ec,.slice ta G.n tc,.slice da dn dc,.slice ra rn rc,.slice la ln lc],.agg #[.int .i64 (s:Int),.slice pa (nF G) pc],.int .i64 (u.1:Int),.int .i64 (u.2.2.2.1:Int),.int .i64 (x:Int)] W fun e w'=>e=.returned (.int .i64 (y:Int))∧Below W.heap.size W w':=fun W h=>by
              have h9:=HI9.out.1.below h
              have:=rcross_walk HOK.out HS.out.2.2 (by omega) u.1 (rp u 2) x hul.t (rp_lt hul 2) hxs _ _ _ W h9.g h9.sk h9.p s
              rw[hc1] at this
              exact this
             have HC:=Lib.hid call
             have HST:=Hd2 hst hx
             have k0:0≤(k:Int):=by omega
             have km:(k:Int)<(m:Int):=by omega
             have c0:=za4 hI9.c0
             have c1':=za4 hI9.c1
             have c2:=za4 hI9.c2
             have d0:=za4 hI9.d0
             have d1:=za4 hI9.d1
             have d2:=za4 hI9.d2
             have d3:=za4 hI9.d3
             have d4:=za4 hI9.d4
             have d5:=za4 hI9.d5
             obtain⟨nf,hnf⟩:∃nf,nf=nF G:=⟨_,rfl⟩
             clear call hst hx hc1 hc2 hif hig hpg hb79 hown hul hy hI9 hbz hu hnf
             go_wp2_with fail
             refine (HC.out _ (by (repeat' (first | assumption | exact Below.refl _ _ | refine za7 ?_ (by assumption) | refine zb2 ?_ _ | refine za5 ?_ | refine zb1 ?_ (by simp<;>omega) _)))).mono ?_
             rintro z W9 ⟨rfl,hb9⟩
             have HB9:=Lib.hid (show Below V8.heap.size V8 W9 from (HI9.out.2.alloc HI9.out.2.size _).trans (hb9.mono (by have:=HI9.out.2.size;simp;omega)))
             clear hb9 c0 c1' c2 d0 d1 d2 d3 d4 d5 b0 b1 b2 b3 b4
             go_wp2
             exact⟨⟨k+1,by omega,by simp,by rw[HST.out.1],HB9.out⟩,by simp[intOf];omega⟩
            ·obtain rfl:k=m:=by omega
             obtain⟨x,hx⟩:∃x,x=shA G fp (fun k=>invP (fp k) s) (pth G 2 (frS t e) k) i k:=⟨_,rfl⟩
             rw[←hx]
             have HX:=Lib.hid hx
             have c1':=hI9.c1
             clear hx hI9 hbz
             by_cases hxi:x=i
             ·have q1:((x:Int) !=(i:Int))=false:=by simp[hxi]
              have HXI:=Lib.hid hxi
              clear hxi
              go_wp2
              exact⟨⟨i+1,by omega,by simp,fun z hz=>by
               rcases Nat.lt_or_ge z i with h | h
               ·exact HGD.out.1 z h
               ·rw[show z=i by omega,←HX.out,HXI.out],HGD.out.2.trans (HI9.out.2.mono HGD.out.2.size)⟩,by simp[intOf];omega⟩
             ·have q1:((x:Int) !=(i:Int))=true:=by simp;omega
              have HF:=Lib.hid (zd4 (P:=IsP G s (nF G) len fp) (fun h=>hxi (by
               have:=h.2 (6*t+e) (by omega)
               rw[show (6*t+e) / 6=t by omega,show (6*t+e) % 6=e by omega] at this
               have h2:=this k H7.out.2.2.1 H7.out.2.2.2.1 H7.out.2.2.2.2.1 i (by simpa using his)
               rw[HX.out];exact h2)))
              clear hxi
              go_wp2
              go_ret
              exact⟨by rw[HF.out];rfl,by rw[←HN.out];exact HI9.out.1.bel⟩
          ·obtain rfl:i=s:=by omega
           have HRK:=Lib.hid (show ze1 G fp (fun k=>invP (fp k) i) i (frS t e) from fun m' h0 h1 h2=>by
            obtain rfl:=ring_uniq H7.out.2.2.1 h0 H7.out.2.2.2.1 H7.out.2.2.2.2.1 h1 h2
            exact HGD.out.1)
           have HBB:=Lib.hid (H7.out.1.trans (HGD.out.2.mono H7.out.1.size))
           go_wp2
           exact⟨⟨e+1,by omega,by simp,fun q hq=>by
            rcases Nat.lt_or_ge q (6*t+e) with h | h
            ·exact HA.out.1 q h
            ·rw[show q / 6=t by omega,show q % 6=e by omega];exact HRK.out,HBB.out⟩,by simp[intOf];omega⟩
     ·obtain rfl:e=6:=by omega
      go_wp2
      exact⟨⟨t+1,by omega,by simp,fun q hq=>HA.out.1 q (by omega),HA.out.2⟩,by simp[intOf];omega⟩
   ·obtain rfl:t=G.n:=by omega
    have HT3:=Lib.hid (boolOf_true (P:=IsP G s (nF G) len fp) ⟨HS.out.1,HA.out.1⟩)
    have HB4:=Lib.hid (HS.out.2.1.below HA.out.2).bel
    go_wp2
    go_ret
    exact⟨by rw[HT3.out];rfl,by rw[←HN.out];exact HB4.out⟩
 ·have HF:=Lib.hid (zd4 (P:=IsP G S np len fp) (fun h=>hsh h.1))
  rw[zd4 hsh]
  have HB:=Lib.hid (hbN2.trans (hb3.mono (by omega)))
  clear hsh hW hD hb2 hb3 d0 d1 d2 d3 d4 d5 hbN2 hbW2 hsk2 hg2 hp2 hgr x0 x1 x2
  go_wp2
  go_ret
  exact⟨by rw[HF.out];rfl,by rw[←HN.out];exact HB.out⟩
end
end Go.Proofs.Ytlckpgahijlmoaa
