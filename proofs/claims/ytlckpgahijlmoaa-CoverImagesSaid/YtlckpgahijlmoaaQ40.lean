/- group's walk: its steps. Pure. -/
import Derived.Test.YtlckpgahijlmoaaQ29
import Derived.Test.YtlckpgahijlmoaaQ39
import Derived.Test.YtlckpgahijlmoaaQ15
import Derived.Test.YtlckpgahijlmoaaQ37
import Derived.Test.YtlckpgahijlmoaaQ36
import Derived.Test.YtlckpgahijlmoaaQ38
import Derived.Test.YtlckpgahijlmoaaQ35
import Derived.Test.YtlckpgahijlmoaaQ32
set_option maxRecDepth 100000
set_option maxHeartbeats 8000000
namespace Go.Proofs.Ytlckpgahijlmoaa
section
open Go.RowKit Go.Shelf Go.Maps
structure CW (W0 W:World)(D S k:Nat)(F:Nat→Nat→Int)(ds:Nat→Nat)(uv:Value)(xs:List Value):Prop where
 own:W.ownsRow (D+1) 35 1 uv k xs
 row:∀j,j<k→xs[j]?=some (.slice (some ⟨ds j,0,none⟩) S S)∧D<ds j∧uv.ownBlock≠some (ds j)∧zb7 W (ds j) S (F j)
 inj:∀i j,i<k→j<k→ds i=ds j→i=j
 d0:W.cell? ⟨D,0,none⟩=some (.int .i64 (S:Int))
 d1:W.cell? ⟨D,1,none⟩=some uv
 f1:W.frozen? ⟨D,1,none⟩=false
 bel:Below D W0 W
theorem CW.kept {W0 W W':World}{D S k:Nat}{F:Nat→Nat→Int}{ds:Nat→Nat}{uv:Value}{xs:List Value}(h:CW W0 W D S k F ds uv xs)(hg:W.grownBy W' none):CW W0 W' D S k F ds uv xs:=by
 refine⟨h.own.kept hg (by cases uv.ownBlock<;>simp),fun j hj=>?_,h.inj,hg.cell h.d0 (by simp),hg.cell h.d1 (by simp),(hg.frozen_far ⟨D,1,none⟩ (za0 h.d1) (by simp)).trans h.f1,h.bel.grown hg (by have:=za0 h.d0;simp only at this;omega) (fun r e=>by cases e)⟩
 obtain⟨e1,e2,e3,e4⟩:=h.row j hj
 exact⟨e1,e2,e3,za3 e4 hg (by simp)⟩
theorem CW.ne {W0 W:World}{D S k:Nat}{F:Nat→Nat→Int}{ds:Nat→Nat}{uv:Value}{xs:List Value}(h:CW W0 W D S k F ds uv xs):some D≠uv.ownBlock:=fun e=>by
 have:=(h.own.lt D e.symm).1;omega
theorem CW.push {W0 W W2 w2:World}{D S k d g gc:Nat}{F:Nat→Nat→Int}{ds:Nat→Nat}{uv:Value}{xs:List Value}{f:Nat→Int}(h:CW W0 W D S k F ds uv xs)(hg:W.grownBy W2 none)(hd:W.heap.size≤d)(hrow:zb7 W2 d S f)
  (hown:w2.ownsRow (D+1) 35 1 (.slice (some ⟨g,0,none⟩) (k+1) gc) (k+1) (xs++[.slice (some ⟨d,0,none⟩) S S])) (hgrow:W2.grownBy w2 uv.ownBlock) (hat:uv.ownBlock=some g∨g=W2.heap.size) :
  CW W0 (w2.setCell ⟨D,1,none⟩ (.slice (some ⟨g,0,none⟩) (k+1) gc)) D S (k+1) (fun j=>if j=k then f else F j) (fun j=>if j=k then d else ds j) (.slice (some ⟨g,0,none⟩) (k+1) gc) (xs++[.slice (some ⟨d,0,none⟩) S S]):=by
 have h1:=h.kept hg
 have hDl:=za0 h.d0
 simp only at hDl
 have hxl:=h.own.1
 have hs2:=hg.size
 have hsc:=za1 w2 D 1 (.slice (some ⟨g,0,none⟩) (k+1) gc)
 have hob:∀j,uv.ownBlock=some j→D+1≤j∧j<W.heap.size:=fun j hj=>h.own.lt j hj
 have hgD:g≠D:=fun e=>by
  rcases hat with q | q
  ·have:=(hob g q).1;omega
  ·omega
 refine⟨hown.kept hsc (.inr (by simp only[Value.ownBlock,ne_eq,Option.some.injEq];exact hgD)),fun j hj=>?_,fun i j hi hj e=>?_,?_,World.cell?_setCell_same _ _ _ (hgrow.cell h1.d1 h.ne),?_,?_⟩
 ·by_cases e:j=k
  ·subst e
   simp only[if_pos]
   refine⟨by rw[List.getElem?_append_right (by omega),show j-xs.length=0 by omega];rfl,by omega,?_,?_⟩
   ·have hdl:=hrow.lt
    simp only[Value.ownBlock,ne_eq,Option.some.injEq]
    intro q
    rcases hat with z | z
    ·subst q;have:=(hob _ z).2;omega
    ·omega
   ·exact za3 (za3 hrow hgrow (fun q=>by have:=(hob d q.symm).2;omega)) hsc (by simp;omega)
  ·simp only[if_neg e]
   obtain⟨e1,e2,e3,e4⟩:=h1.row j (by omega)
   obtain⟨q1,q2,q3,q4⟩:=h.row j (by omega)
   refine⟨by rw[List.getElem?_append_left (by omega)];exact e1,e2,?_,?_⟩
   ·simp only[Value.ownBlock,ne_eq,Option.some.injEq]
    intro q
    rcases hat with z | z
    ·subst q;exact e3 z
    ·have:=q4.lt;omega
   ·exact za3 (za3 e4 hgrow (fun q=>e3 q.symm)) hsc (by simp;omega)
 ·have hlt:∀j,j<k→ds j<W.heap.size:=fun j hj=>(h.row j hj).2.2.2.lt
  by_cases ei:i=k
  ·by_cases ej:j=k
   ·omega
   ·rw[if_pos ei,if_neg ej] at e
    have:=hlt j (by omega);omega
  ·by_cases ej:j=k
   ·rw[if_neg ei,if_pos ej] at e
    have:=hlt i (by omega);omega
   ·rw[if_neg ei,if_neg ej] at e
    exact h.inj i j (by omega) (by omega) e
 ·exact (World.cell?_setCell_other (a:=⟨D,1,none⟩) (b:=⟨D,0,none⟩) _ _ (by simp)).trans (hgrow.cell h1.d0 h.ne)
 ·rw[World.frozen?_setCell];exact (hgrow.frozen_far ⟨D,1,none⟩ (za0 h1.d1) h.ne).trans h1.f1
 ·exact (h1.bel.grown hgrow (by omega) (fun r e=>by have:=(hob r e).1;omega)).setCell (by show D≤D;omega) _
theorem CW.LLn {W0 W:World}{D S k:Nat}{F E:Nat→Nat→Int}{ds:Nat→Nat}{uv:Value}{xs:List Value}(h:CW W0 W D S k F ds uv xs)(e:∀j,j<k→∀i,i<S→F j i=E j i):LLn (D+1) W.heap.size W uv k (fun _=>S) E:=by
 have hxl:=h.own.1
 rcases h.own.2 with ⟨rfl,rfl⟩ | ⟨g,cap,cur,rfl,hge,hgg,_⟩
 ·exact⟨none,0,0,0,rfl,fun h=>by omega,fun j hj=>by omega⟩
 ·refine⟨_,g,0,cap,rfl,fun _=>⟨rfl,hge,(Array.getElem?_eq_some_iff.1 hgg).1⟩,fun j hj=>?_⟩
  obtain⟨e1,e2,e3,e4⟩:=h.row j hj
  refine⟨_,ds j,0,S,?_,fun hp=>⟨rfl,by omega,e4.lt⟩,fun i hi=>by rw[Nat.zero_add,←e j hj i hi];exact e4.cell hi⟩
  have:=h.own.cells (g:=g) rfl j _ e1
  rw[Addr.add_mid] at this
  exact this
theorem AskedAns.two {G:Gl}{v:Value}{sh:Int}{pv:Value}{np:Nat}{len:Nat→Nat}{fp:Nat→Nat→Int}{e:Ending}{w':World}(h:AskedAns G v sh pv np len fp e w') :
  ∃pt c,e=.returned (.tuple #[pt,.int .i64 c])∧AskedErr G sh np len fp c∧(c≠0∨(c=0∧za9 G=true∧CovOK G sh np len fp∧∃Cv B' X mb bv vv ev tv lv dB rB,pt=.pointer (some ⟨Cv,0,none⟩)∧CV w' w'.heap.size Cv B' X mb v pv bv G vv ev tv lv dB rB sh.toNat fp (fun k=>invP (fp k) sh.toNat))):=by
 rcases h.out with ⟨c,h1,h2,h3⟩ | ⟨Cv,B',X,mb,bv,vv,ev,tv,lv,dB,rB,h1,h2,h3,h4,h5⟩
 ·exact⟨_,c,h2,h3,.inl h1⟩
 ·exact⟨_,0,h1,h2,.inr ⟨rfl,h3,h4,Cv,B',X,mb,bv,vv,ev,tv,lv,dB,rB,rfl,h5⟩⟩
end
section
open Go.RowKit Go.Shelf Go.Maps
structure SB (W:World)(D:Nat)(va:Option Addr)(vn vc:Nat)(ea:Option Addr)(en ec:Nat)(ta:Option Addr)(tn tc:Nat)(da:Option Addr)(dn dc:Nat)(ra:Option Addr)(rn rc:Nat)(la:Option Addr)(ln lc:Nat):Prop where
 d0:W.cell? ⟨D,0,none⟩=some (.slice va vn vc)
 d1:W.cell? ⟨D,1,none⟩=some (.slice ea en ec)
 d2:W.cell? ⟨D,2,none⟩=some (.slice ta tn tc)
 d3:W.cell? ⟨D,3,none⟩=some (.slice da dn dc)
 d4:W.cell? ⟨D,4,none⟩=some (.slice ra rn rc)
 d5:W.cell? ⟨D,5,none⟩=some (.slice la ln lc)
section
variable {W W':World}{D:Nat}{va:Option Addr}{vn vc:Nat}{ea:Option Addr}{en ec:Nat}{ta:Option Addr}{tn tc:Nat}{da:Option Addr}{dn dc:Nat}{ra:Option Addr}{rn rc:Nat}{la:Option Addr}{ln lc:Nat}
theorem SB.kept {row:Option Nat}(h:SB W D va vn vc ea en ec ta tn tc da dn dc ra rn rc la ln lc)(hg:W.grownBy W' row)(hr:some D≠row):SB W' D va vn vc ea en ec ta tn tc da dn dc ra rn rc la ln lc:=
 ⟨hg.cell h.d0 hr,hg.cell h.d1 hr,hg.cell h.d2 hr,hg.cell h.d3 hr,hg.cell h.d4 hr,hg.cell h.d5 hr⟩
end
section
variable {W W':World}{D:Nat}{va:Option Addr}{vn vc:Nat}{ea:Option Addr}{en ec:Nat}{ta:Option Addr}{tn tc:Nat}{da:Option Addr}{dn dc:Nat}{ra:Option Addr}{rn rc:Nat}{la:Option Addr}{ln lc:Nat}
theorem SB.made (hD:D=W.heap.size):SB (W.alloc (.cells #[.slice va vn vc,.slice ea en ec,.slice ta tn tc,.slice da dn dc,.slice ra rn rc,.slice la ln lc] 54)) D va vn vc ea en ec ta tn tc da dn dc ra rn rc la ln lc:=
 ⟨World.cell?_alloc_at _ _ _ _ hD,World.cell?_alloc_at _ _ _ _ hD,World.cell?_alloc_at _ _ _ _ hD,World.cell?_alloc_at _ _ _ _ hD,World.cell?_alloc_at _ _ _ _ hD,World.cell?_alloc_at _ _ _ _ hD⟩
theorem SB.bl (h:SB W D va vn vc ea en ec ta tn tc da dn dc ra rn rc la ln lc)(hb:Below W.heap.size W W'):SB W' D va vn vc ea en ec ta tn tc da dn dc ra rn rc la ln lc:=h.kept (za6 hb (Nat.le_refl _) none) (by simp)
end
def SKW (K B:Nat)(W:World)(ta:Option Addr)(G:Gl):Prop:=∃b,(0<G.n→ta=some ⟨b,0,none⟩∧K≤b∧b<B)∧∀k,k<4*G.n→W.cell? ⟨b,k,none⟩=some (.int .i64 (fN G k:Nat))
theorem SkR.skw {W:World}{B:Nat}{sv:Value}{G:Gl}(h:SkR W B sv G):∃va vc ea ec ta tc da dn dc ra rn rc la ln lc,sv=.agg #[.slice va G.n vc,.slice ea G.n ec,.slice ta G.n tc,.slice da dn dc,.slice ra rn rc,.slice la ln lc]∧SKW B W.heap.size W ta G:=by
 obtain⟨vv,ev,tv,lv,dB,rB,xs,rfl,h1,h2,h3,h4,-,-,-,-⟩:=h.ex
 obtain⟨va,vc,rfl⟩:=za8 h1
 obtain⟨ea,ec,rfl⟩:=za8 h2
 obtain⟨la,lc,rfl⟩:=za8 h4
 obtain⟨ta,tc,rfl⟩:=za8 h3
 refine⟨va,vc,ea,ec,ta,tc,_,_,_,_,_,_,la,_,lc,rfl,?_⟩
 rcases Nat.eq_zero_or_pos G.n with h0 | h0
 ·exact⟨0,fun h=>by omega,fun k hk=>by omega⟩
 ·obtain⟨b,tc',e,h5,hlt⟩:=h3.form h0
  obtain⟨rfl,rfl⟩:ta=some ⟨b,0,none⟩∧tc=tc':=by simpa using e
  refine⟨b,fun _=>⟨rfl,(h3.lt b rfl).1,hlt⟩,fun k hk=>?_⟩
  have:=h3.cells (g:=b) rfl k _ (ints_get (fN G) (4*G.n) k hk)
  rwa [Addr.add_mid,Nat.zero_add] at this
theorem SKW.below {K:Nat}{W W':World}{ta:Option Addr}{G:Gl}(h:SKW K W.heap.size W ta G)(hb:Below W.heap.size W W'):SKW K W'.heap.size W' ta G:=by
 obtain⟨b,q1,q2⟩:=h
 have hs:=hb.size
 exact⟨b,fun h0=>⟨(q1 h0).1,(q1 h0).2.1,by have:=(q1 h0).2.2;omega⟩,fun k hk=>(hb.cell (p:=⟨b,k,none⟩) (q1 (by omega)).2.2).trans (q2 k hk)⟩
section
variable {w W W':World}{N:Nat}{ga:Option Addr}{gn gc:Nat}{S:Int}{pa:Option Addr}{np pc:Nat}{T:Int}{pa2:Option Addr}{np2 pc2:Nat}
end
end
section
open Go.RowKit Go.Shelf
section
variable (G:Gl)(v:Value)(S:Int)(pv:Value)(np:Nat)(len:Nat→Nat)(fp:Nat→Nat→Int)(w:World)(hG:GlAt w.heap.size w v G)(hm:G.n≤9223372036854775807)(hpv:LLc w.heap.size w pv np len fp)(hlen:∀k,k<np→len k<4611686018427387904)(hnp:np<4611686018427387904)
include hG hm hpv hlen hnp
end
end
section
open Go.RowKit Go.Shelf
def oneB (G:Gl):Bool:=decide (0<G.n) && (List.range G.n).all fun u=>ptR G u==0
theorem cnt_pos {r:Nat→Nat}(h0:r 0=0):∀m,0<cnt r (m+1)
 | 0=>by simp[cnt,h0]
 | m+1=>by have:=cnt_pos h0 m;rw[cnt];omega
theorem ptN_zero {G:Gl}(hok:za9 G=true){u:Nat}(hu:u<G.n):ptN G u=0↔ptR G u=0:=by
 have h0:ptR G 0=0:=by have:=pt_le hok (show 0<G.n by omega);omega
 unfold ptN
 constructor
 ·intro h
  cases hr:ptR G u with
  | zero=>rfl
  | succ m=>rw[hr] at h;have:=cnt_pos h0 m;omega
 ·intro h;rw[h];rfl
theorem oneB_true {G:Gl}(hn:0<G.n)(h:∀u,u<G.n→ptR G u=0):oneB G=true:=by
 simp only[oneB,Bool.and_eq_true,decide_eq_true_eq,List.all_eq_true,List.mem_range,beq_iff_eq]
 exact⟨hn,h⟩
theorem oneB_false {G:Gl}{u:Nat}(hu:u<G.n)(h:ptR G u≠0):oneB G=false:=by
 cases hb:oneB G with
 | false=>rfl
 | true=>
  simp only[oneB,Bool.and_eq_true,decide_eq_true_eq,List.all_eq_true,List.mem_range,beq_iff_eq] at hb
  exact absurd (hb.2 u hu) h
theorem rone_walk (G:Gl)(hok:za9 G=true)(v:Value)(w:World)(hG:GlAt w.heap.size w v G) :
  Calls Try.prog 65 #[.agg #[v]] w fun e w'=>e=.returned (.bool (oneB G))∧Below w.heap.size w w':=by
 have hn:=zg5 hok
 have HG:=Hd2 hok hG
 obtain⟨a,cap,rfl⟩:∃a cap,v=.slice a G.n cap:=by obtain⟨a,_,_,cap,e,_⟩:=hG;exact⟨a,cap,e⟩
 clear hG hok
 obtain⟨N,hN⟩:∃N,N=w.heap.size:=⟨_,rfl⟩
 have HN:=Lib.hid hN
 go_enter Try.func65,Try.ntmps65
 go_wp2_with fail
 rw[←hN]
 refine zb4 fun W0 hW=>?_
 have hb:Below N w W0:=by rw[hW,hN];(repeat' (first | assumption | exact Below.refl _ _ | refine za7 ?_ (by assumption) | refine zb2 ?_ _ | refine za5 ?_ | refine zb1 ?_ (by simp<;>omega) _))
 have hbw:Below w.heap.size w W0:=by rw[←hN];exact hb
 refine (rparts_walk G HG.out.1 (parts_inv HG.out.1) (.slice a G.n cap) W0 ((HG.out.2.below hbw).mono hbw.size)).mono ?_
 rintro e W1 ⟨d,p,h,rfl,hrow,hA,hd,hb1⟩
 have hh:∀u,u<G.n→h u=ptN G u:=fun u hu=>by
  rw[hA.2 u hu,if_pos (.inl (by have:=pt_le HG.out.1 hu;omega))]
 have hcell:∀u:Nat,u<G.n→W1.cell? ⟨d,u,none⟩=some (.int .i64 (h u)):=fun u hu=>hrow.cell hu
 have H1:=Hd3 (show Below w.heap.size w W1 from hbw.trans (hb1.mono hbw.size)) hh hcell
 clear hW hN hb hb1 hbw hrow hA hd hh hcell
 obtain⟨n,hne⟩:∃n,n=G.n:=⟨_,rfl⟩
 rw[←hne] at hn ⊢
 have HNE:=Lib.hid hne
 clear hne
 go_wp2
 go_loopw [14] (fun i wr=>∃k:Nat,k≤n∧i=.int .i64 k∧wr=W1∧∀u,u<k→ptR G u=0) (fun i _=>n-(intOf i).toNat)
 case atStart=>exact⟨0,by omega,rfl,rfl,fun u hu=>by omega⟩
 case round=>
  obtain⟨k,hk,rfl,rfl,hz⟩:=hrel
  have HZ:=Lib.hid hz
  clear hz
  rcases Nat.lt_or_ge k n with hkn | hkn
  ·obtain⟨y,hy⟩:∃y,y=h k:=⟨_,rfl⟩
   have c0:=H1.out.2.2 k (by rw[←HNE.out];exact hkn)
   rw[←hy] at c0
   have hy0:y=ptN G k:=by rw[hy];exact H1.out.2.1 k (by rw[←HNE.out];exact hkn)
   have HY:=Lib.hid hy0
   clear hy hy0
   by_cases e:y=0
   ·have b1:(y !=0)=false:=by simpa using e
    go_wp2
    refine⟨⟨k+1,by omega,by simp,trivial,fun u hu=>?_⟩,by simp[intOf];omega⟩
    rcases Nat.lt_or_ge u k with h1 | h1
    ·exact HZ.out u h1
    ·obtain rfl:u=k:=by omega
     exact (ptN_zero HG.out.1 (by rw[←HNE.out];exact hkn)).1 (by rw[←HY.out];exact e)
   ·have b1:(y !=0)=true:=by simpa using e
    go_wp2
    go_ret
    have hkG:k<G.n:=by rw[←HNE.out];exact hkn
    exact⟨by rw[oneB_false hkG (fun q=>e (by rw[HY.out];exact (ptN_zero HG.out.1 hkG).2 q))];rfl,H1.out.1⟩
  ·obtain rfl:k=n:=by omega
   go_wp2
   go_ret
   refine⟨?_,H1.out.1⟩
   have:oneB G=decide (0<k):=by
    by_cases h0:0<k
    ·rw[oneB_true (by rw[←HNE.out];exact h0) (fun u hu=>HZ.out u (by rw[HNE.out];exact hu))]
     simp[h0]
    ·simp[oneB,←HNE.out,h0]
   rw[this];rfl
end
section
open Go.RowKit Go.Shelf Go.Maps
noncomputable def imgF (G:Gl)(fi:Nat→Nat→Int)(c i:Nat):Int:=
 open Classical in if h:∃j,j<4*G.n∧isF G j∧fN G j=c then (if genB G (Classical.choose h)=true then fi (gnN G (Classical.choose h)) i else i) else i
theorem imgF_at {G:Gl}(hok:za9 G=true){fi:Nat→Nat→Int}{j:Nat}(hj:j<4*G.n)(hf:isF G j)(i:Nat):imgF G fi (fN G j) i=if genB G j=true then fi (gnN G j) i else i:=by
 have h:∃m,m<4*G.n∧isF G m∧fN G m=fN G j:=⟨j,hj,hf,rfl⟩
 unfold imgF
 rw[dif_pos h]
 obtain⟨a,b,c⟩:=Classical.choose_spec h
 rw[first_uniq hok a hj b hf c]
noncomputable def imgI (G:Gl)(S:Int)(ni:Nat)(li:Nat→Nat)(fi:Nat→Nat→Int):Int:=
 open Classical in
 if askI G=0 then
  (if oneB G=true∧1≤S∧S≤24 then
   (if ni=gnN G (4*G.n)∧∀k,k<ni→permB (li k) (fi k) S=true then
    (if S*G.n≤1000 then (if IsP G S (nF G) (fun _=>S.toNat) (imgF G fi) then 0 else 110) else 2) else 1) else 1) else askI G
def ImgAns (G:Gl)(S:Int)(ni:Nat)(li:Nat→Nat)(fi:Nat→Nat→Int)(e:Ending)(w':World):Prop:=
 ∃s pv,e=.returned (.tuple #[.agg #[.int .i64 s,pv],.int .i64 (imgI G S ni li fi)]) ∧
  ((imgI G S ni li fi≠0∧s=0∧pv=.slice none 0 0)∨(imgI G S ni li fi=0∧s=S∧LLs w'.heap.size w' pv (nF G) (fun _=>S.toNat) (imgF G fi)))
def clsN (G:Gl)(k:Nat):Nat:=cnt (zb5 G).r4 k
theorem clsN_succ {G:Gl}(hok:za9 G=true){k:Nat}(hk:k<4*G.n):clsN G (k+1)=if isF G k then clsN G k+1 else clsN G k:=by
 simp only[clsN,cnt]
 by_cases h:isF G k
 ·rw[if_pos ((isF_root hok hk).2 h),if_pos h]
 ·rw[if_neg (fun e=>h ((isF_root hok hk).1 e)),if_neg h];rfl
theorem clsN_first {G:Gl}(hok:za9 G=true){k:Nat}(hk:k<4*G.n):fN G k=clsN G k↔isF G k:=by
 constructor
 ·intro h
  obtain⟨u,hu⟩:=(cls_inv hok).2.2.2
  have h1:=hu.rle k hk
  have h2:=hu.idem k hk
  refine (isF_root hok hk).1 ?_
  rcases Nat.lt_or_ge ((zb5 G).r4 k) k with c | c
  ·have h3:=cnt_lt (n:=k) (zb5 G).r4 h2 c
   have h4:cnt (zb5 G).r4 ((zb5 G).r4 k)=cnt (zb5 G).r4 k:=h
   omega
  ·omega
 ·intro h
  unfold fN clsN
  rw[(isF_root hok hk).2 h]
theorem CW.LLc {W0 W:World}{D S k:Nat}{F E:Nat→Nat→Int}{ds:Nat→Nat}{uv:Value}{xs:List Value}(h:CW W0 W D S k F ds uv xs)(e:∀j,j<k→∀i,i<S→F j i=E j i):LLc W.heap.size W uv k (fun _=>S) E:=by
 have hxl:=h.own.1
 rcases h.own.2 with ⟨rfl,rfl⟩ | ⟨g,cap,cur,rfl,hge,hgg,_⟩
 ·exact⟨none,0,0,0,rfl,fun h=>by omega,fun j hj=>by omega⟩
 ·refine⟨_,g,0,cap,rfl,fun _=>⟨rfl,(Array.getElem?_eq_some_iff.1 hgg).1⟩,fun j hj=>?_⟩
  obtain⟨e1,e2,e3,e4⟩:=h.row j hj
  refine⟨_,ds j,0,S,?_,Nat.le_refl _,fun hp=>⟨rfl,e4.lt⟩,fun i hi=>by rw[Nat.zero_add,←e j hj i hi];exact e4.cell hi⟩
  have:=h.own.cells (g:=g) rfl j _ e1
  rw[Addr.add_mid] at this
  exact this
def IW (WB W:World)(D s:Nat)(G:Gl)(fi:Nat→Nat→Int)(k:Nat):Prop:=
 ∃F ds uv xs,(∀j,j<clsN G k→∀i,i<s→F j i=imgF G fi j i)∧CW WB W D s (clsN G k) F ds uv xs
theorem IW.kept {WB W W':World}{D s k:Nat}{G:Gl}{fi:Nat→Nat→Int}(h:IW WB W D s G fi k)(hg:W.grownBy W' none):IW WB W' D s G fi k:=by
 obtain⟨F,ds,uv,xs,e,h⟩:=h;exact⟨F,ds,uv,xs,e,h.kept hg⟩
theorem IW.skip {WB W:World}{D s k:Nat}{G:Gl}{fi:Nat→Nat→Int}(hok:za9 G=true)(hk:k<4*G.n)(hf:¬isF G k)(h:IW WB W D s G fi k):IW WB W D s G fi (k+1):=by
 unfold IW at h ⊢
 rw[clsN_succ hok hk,if_neg hf];exact h
theorem img_num {G:Gl}(hok:za9 G=true){fi:Nat→Nat→Int}{k:Nat}(hk:k<4*G.n)(hf:isF G k)(i:Nat):imgF G fi (clsN G k) i=if 0<ltrI G k then fi (gnN G k) i else i:=by
 rw[←(clsN_first hok hk).2 hf,imgF_at hok hk hf]
 unfold ltrI
 by_cases hg:genB G k=true
 ·rw[if_pos hg,if_pos hg,if_pos (by omega)]
 ·rw[if_neg hg,if_neg hg]
  split
  ·rw[if_neg (by omega)]
  ·rw[if_neg (by omega)]
theorem ltr_pos {G:Gl}{k:Nat}(h:0<ltrI G k):genB G k=true∧ltrI G k=(gnN G k:Int)+1:=by
 unfold ltrI at h ⊢
 by_cases hg:genB G k=true
 ·rw[if_pos hg];exact⟨hg,rfl⟩
 ·rw[if_neg hg] at h
  split at h<;>omega
end
section
theorem perm_at {l s:Nat}{f:Nat→Int}(h:permB l f s=true){i:Nat}(hi:i<s):∃j,j<s∧f j=i:=by
 have hl:l=s:=zg1 h
 subst hl
 have hr:=(zf1 h).2
 have hj:=permB_inj h
 obtain⟨j,hj1,hj2⟩:=surj_of_inj l (fun x=>(f x).toNat) (fun x hx=>by have:=hr x hx;omega) (fun x y hx hy e=>hj x y hx hy (by have:=hr x hx;have:=hr y hy;omega)) i hi
 exact⟨j,hj1,by have:=hr j hj1;omega⟩
theorem fstI_perm {l s:Nat}{f:Nat→Int}(h:permB l f s=true){j:Nat}(hj:j<s){i:Int}(e:f j=i):fstI f l i=j:=by
 have hl:l=s:=zg1 h
 subst hl
 exact fstI_at hj e (fun k hk q=>by have:=permB_inj h k j (by omega) hj (q.trans e.symm);omega)
section
variable {G:Gl}{s ni:Nat}{li:Nat→Nat}{fi:Nat→Nat→Int}(hok:za9 G=true)(hni:ni=gnN G (4*G.n))(hp:∀k,k<ni→permB (li k) (fi k) s=true)
include hok hni hp
theorem mv_cr {k:Nat}(hk:k<4*G.n)(ht:¬G.tet k<0){i:Nat}(hi:i<s) :
  (genB G k=true→crF G (imgF G fi) (fun c=>invP (imgF G fi c) s) (k / 4) (k % 4) i=fi (gnN G k) i) ∧
  (genB G (tb G k)=true→crF G (imgF G fi) (fun c=>invP (imgF G fi c) s) (k / 4) (k % 4) i=(fstI (fi (gnN G (tb G k))) (li (gnN G (tb G k))) i:Int)) ∧
  (genB G k=false→genB G (tb G k)=false→crF G (imgF G fi) (fun c=>invP (imgF G fi c) s) (k / 4) (k % 4) i=i):=by
 obtain⟨f1,f2,f3,f4,-⟩:=zd5 hok hk ht
 have e4:4*(k / 4)+k % 4=k:=by omega
 have hc:=crF_at hok (imgF G fi) (fun c=>invP (imgF G fi c) s) (t:=k / 4) (fc:=k % 4) (by omega) (by omega) i
 rw[e4] at hc
 have hlt:∀{m},m<4*G.n→genB G m=true→gnN G m<ni:=fun hm hg=>by rw[hni];exact gnN_lt hg hm
 by_cases hf:isF G k
 ·rw[if_pos hf,imgF_at hok hk hf] at hc
  have hb:genB G (tb G k)=false:=by
   cases h:genB G (tb G k) with
   | false=>rfl
   | true=>exact absurd hf ((isF_tb hok hk ht).1 (zd7.1 h).2.2)
  refine⟨fun h=>by rw[hc,if_pos h],fun h=>(by rw[hb] at h;cases h),fun h _=>by rw[hc,h];rfl⟩
 ·have hf2:=(isF_tb hok hk ht).2 hf
  have hN:=fN_tb hok hk ht
  rw[if_neg hf] at hc
  have hb:genB G k=false:=by
   cases h:genB G k with
   | false=>rfl
   | true=>exact absurd (zd7.1 h).2.2 hf
  have him:∀x,imgF G fi (fN G k) x=if genB G (tb G k)=true then fi (gnN G (tb G k)) x else x:=fun x=>by rw[←hN];exact imgF_at hok f1 hf2 x
  refine⟨fun h=>(by rw[hb] at h;cases h),fun h=>?_,fun _ h=>?_⟩
  ·have hP:=hp _ (hlt f1 h)
   obtain⟨j,hj,he⟩:=perm_at hP hi
   rw[fstI_perm hP hj he,hc]
   refine invP_at (fun x y hx hy q=>?_) hj (by rw[him,if_pos h];exact he)
   rw[him,him,if_pos h,if_pos h] at q
   have hl:=zg1 hP
   exact permB_inj hP x y (by omega) (by omega) q
  ·rw[hc]
   refine invP_at (fun x y hx hy q=>?_) hi (by rw[him,h];rfl)
   rw[him,him,h] at q
   simp only[Bool.false_eq_true,if_false] at q
   omega
end
end
section
def mvN (li:Nat→Nat)(fi:Nat→Nat→Int)(x:Int)(i:Nat):Nat:=if 0<x then (fi (x-1).toNat i).toNat else fstI (fi (-x-1).toNat) (li (-x-1).toNat) i
def actW (li:Nat→Nat)(fi:Nat→Nat→Int)(ws:List Int)(i:Nat):Nat:=ws.foldl (fun a x=>mvN li fi x a) i
def gwrd (G:Gl)(s:RS)(k:Nat):List Int:=((pth G 2 s k).map fun u=>ltrI G (4*u.1+rp u 2)).filter (·≠0)
theorem gwrd_succ {G:Gl}{s u:RS}{k:Nat}(h:itr G 2 s k=some u):gwrd G s (k+1)=gwrd G s k++(if ltrI G (4*u.1+rp u 2)≠0 then [ltrI G (4*u.1+rp u 2)] else []):=by
 unfold gwrd
 rw[pth_succ h,List.map_append,List.filter_append]
 by_cases e:ltrI G (4*u.1+rp u 2)=0<;>simp[e]
section
variable {G:Gl}{S ni:Nat}{li:Nat→Nat}{fi:Nat→Nat→Int}(hok:za9 G=true)(hni:ni=gnN G (4*G.n))(hp:∀k,k<ni→permB (li k) (fi k) S=true)(hS:Sh G S (imgF G fi) (fun c=>invP (imgF G fi c) S))
include hok hni hp hS
theorem act_trn {s:RS}(hs:Rok G.n s){m:Nat}(hm:∀j,j≤m→itr G 2 s j≠none){i:Nat}(hi:i<S):∀k,k≤m→actW li fi (gwrd G s k) i=trn G (imgF G fi) (fun c=>invP (imgF G fi c) S) s k i
 | 0,_=>rfl
 | k+1,hk=>by
  have ih:=act_trn hs hm hi k (by omega)
  cases hu:itr G 2 s k with
  | none=>exact absurd hu (hm k (by omega))
  | some u=>
   have hlt:=trn_lt hok hS hs (hm k (by omega)) hi k (Nat.le_refl _)
   have hR:=zf7 hok hs hu
   have hr4:=rp_lt hR 2
   have ht:¬G.tet (4*u.1+rp u 2)<0:=fun q=>by
    have h1:=hm (k+1) hk
    simp only[itr,hu,Option.bind_some] at h1
    unfold stp at h1
    rw[if_pos q] at h1
    exact h1 rfl
   have huT:=hR.t
   obtain⟨c1,c2,c3⟩:=mv_cr hok hni hp (k:=4*u.1+rp u 2) (by omega) ht hlt
   rw[show (4*u.1+rp u 2) / 4=u.1 by omega,show (4*u.1+rp u 2) % 4=rp u 2 by omega] at c1 c2 c3
   rw[gwrd_succ hu,trn_some hu]
   unfold actW at ih ⊢
   rw[List.foldl_append,ih]
   unfold Xs
   generalize trn G (imgF G fi) (fun c=>invP (imgF G fi c) S) s k i=x at *
   generalize 4*u.1+rp u 2=K at *
   by_cases h1:genB G K=true
   ·have hL:ltrI G K=(gnN G K:Int)+1:=by unfold ltrI;rw[if_pos h1]
    rw[hL,if_pos (by omega),c1 h1]
    simp only[List.foldl_cons,List.foldl_nil,mvN]
    rw[if_pos (by omega),show (((gnN G K:Int)+1-1)).toNat=gnN G K by omega]
   ·by_cases h2:genB G (tb G K)=true
    ·have hL:ltrI G K=-((gnN G (tb G K):Int)+1):=by unfold ltrI;rw[if_neg h1,if_pos ⟨by omega,h2⟩]
     rw[hL,if_pos (by omega),c2 h2]
     simp only[List.foldl_cons,List.foldl_nil,mvN]
     rw[if_neg (by omega),show ((-(-((gnN G (tb G K):Int)+1))-1)).toNat=gnN G (tb G K) by omega];rfl
    ·have hL:ltrI G K=0:=by unfold ltrI;rw[if_neg h1,if_neg (fun h=>h2 h.2)]
     rw[hL,if_neg (by simp),c3 (by simpa using h1) (by simpa using h2)];rfl
end
end
section
theorem eno_edN:∀i,i<4→∀j,j<4→i≠j→eno (min i j,max i j)=edN i j:=by decide
end
section
def RelOf (G:Gl)(r:List Int):Prop:=∃s m,Rok G.n s∧0<m∧itr G 2 s m=some s∧(∀i,0<i→i<m→itr G 2 s i≠some s)∧r=gwrd G s m
def MetE (G:Gl)(rels:List (List Int))(q:Nat):Prop:=
 ∃s u k,Rok G.n s∧itr G 2 s k=some u∧q=6*u.1+edN u.2.1 u.2.2.1 ∧
  ((∃m,itr G 2 s m=none)∨(∃m,itr G 2 (sw23 s) m=none)∨(∃m,0<m∧itr G 2 s m=some s∧(∀i,0<i→i<m→itr G 2 s i≠some s)∧gwrd G s m∈rels))
theorem MetE.more {G:Gl}{rels rels':List (List Int)}{q:Nat}(h:MetE G rels q)(hs:∀r,r∈rels→r∈rels'):MetE G rels' q:=by
 obtain⟨s,u,k,h1,h2,h3,h4⟩:=h
 refine⟨s,u,k,h1,h2,h3,?_⟩
 rcases h4 with h | h | ⟨m,a,b,c,d⟩
 ·exact .inl h
 ·exact .inr (.inl h)
 ·exact .inr (.inr ⟨m,a,b,c,hs _ d⟩)
theorem edN_lt {n:Nat}{u:RS}(hu:Rok n u):edN u.2.1 u.2.2.1<6:=(edN_eq _ _ hu.l.1 hu.l.2.1 hu.d.1).2
section
variable {G:Gl}{S ni:Nat}{li:Nat→Nat}{fi:Nat→Nat→Int}(hok:za9 G=true)(hni:ni=gnN G (4*G.n))(hp:∀k,k<ni→permB (li k) (fi k) S=true)(hS:Sh G S (imgF G fi) (fun c=>invP (imgF G fi c) S))
include hok hni hp hS
theorem pres_iff {rels:List (List Int)}(hr:∀r,r∈rels→RelOf G r)(hm:∀q,q<6*G.n→MetE G rels q) :
  (∀r,r∈rels→∀i,i<S→actW li fi r i=i)↔∀q,q<6*G.n→ze1 G (imgF G fi) (fun c=>invP (imgF G fi c) S) S (frS (q / 6) (q % 6)):=by
 constructor
 ·intro h q hq
  obtain⟨s,u,k,hs,hu,hq2,hc⟩:=hm q hq
  have hR:=zf7 hok hs hu
  have he:=edN_lt hR
  have key:ze1 G (imgF G fi) (fun c=>invP (imgF G fi c) S) S s:=by
   rcases hc with ⟨m,hm⟩ | ⟨m,hm⟩ | ⟨m,m0,m1,m2,m3⟩
   ·exact ring_open hm
   ·exact (RG_sw23_iff hok hS hs).1 (ring_open hm)
   ·refine ringOK_iff.2 fun m' a b c i hi=>?_
    obtain rfl:=ring_uniq a m0 b c m1 m2
    rw[←act_trn hok hni hp hS hs (m:=m') (fun j hj=>?_) hi m' (Nat.le_refl _)]
    ·exact h _ m3 i hi
    ·rcases Nat.lt_or_ge j m' with q | q
     ·exact ring_all b j q
     ·rw[show j=m' by omega,b];simp
  have h2:=(RG_frame hok hS hR).1 (RG_itr hok hS hs hu key)
  rw[show q / 6=u.1 by omega,show q % 6=edN u.2.1 u.2.2.1 by omega]
  exact h2
 ·intro h r hrr i hi
  obtain⟨s,m,hs,m0,m1,m2,rfl⟩:=hr r hrr
  have he:=edN_lt hs
  have ht:=hs.t
  have h1:=h (6*s.1+edN s.2.1 s.2.2.1) (by omega)
  rw[show (6*s.1+edN s.2.1 s.2.2.1) / 6=s.1 by omega,show (6*s.1+edN s.2.1 s.2.2.1) % 6=edN s.2.1 s.2.2.1 by omega] at h1
  have h2:=ringOK_iff.1 ((RG_frame hok hS hs).2 h1) m m0 m1 m2 i hi
  rw[act_trn hok hni hp hS hs (m:=m) (fun j hj=>?_) hi m (Nat.le_refl _)]
  ·exact h2
  ·rcases Nat.lt_or_ge j m with q | q
   ·exact ring_all m1 j q
   ·rw[show j=m by omega,m1];simp
end
theorem gwrd_mem {G:Gl}(hok:za9 G=true){s:RS}(hs:Rok G.n s){m:Nat}{x:Int}(h:x∈gwrd G s m):x≠0∧x≤(gnN G (4*G.n):Int)∧-x≤(gnN G (4*G.n):Int):=by
 unfold gwrd pth at h
 rw[List.mem_filter,List.mem_map] at h
 obtain⟨⟨u,hu,rfl⟩,hx⟩:=h
 rw[List.mem_filterMap] at hu
 obtain⟨j,-,hj⟩:=hu
 have hR:=zf7 hok hs hj
 have ht:=hR.t
 have hr4:=rp_lt hR 2
 have hx0:ltrI G (4*u.1+rp u 2)≠0:=by simpa using hx
 refine⟨hx0,?_⟩
 generalize hK:4*u.1+rp u 2=K at *
 have hKl:K<4*G.n:=by omega
 unfold ltrI at hx0 ⊢
 by_cases h1:genB G K=true
 ·rw[if_pos h1]
  have:=gnN_lt h1 hKl
  omega
 ·rw[if_neg h1] at hx0 ⊢
  by_cases h2:¬G.tet K<0∧genB G (tb G K)=true
  ·rw[if_pos (by exact⟨by omega,h2.2⟩)]
   have hb:=(zd5 hok hKl h2.1).1
   have:=gnN_lt h2.2 hb
   omega
  ·rw[if_neg (by intro q;exact h2 ⟨by omega,q.2⟩)] at hx0
   exact absurd rfl hx0
end
section
section
variable {G:Gl}{s ni:Nat}{li:Nat→Nat}{fi:Nat→Nat→Int}(hok:za9 G=true)(hni:ni=gnN G (4*G.n))(hp:∀k,k<ni→permB (li k) (fi k) (s:Int)=true)
include hok hni hp
theorem img_perm (c:Nat):permB s (imgF G fi c) (s:Int)=true:=by
 have _:=hok
 by_cases h:∃j,j<4*G.n∧isF G j∧fN G j=c
 ·obtain⟨j,hj,hf,rfl⟩:=h
  by_cases hg:genB G j=true
  ·have e:imgF G fi (fN G j)=fi (gnN G j):=by
    funext i
    rw[imgF_at hok hj hf i,if_pos hg]
   rw[e]
   have h1:=hp (gnN G j) (by rw[hni];exact gnN_lt hg hj)
   have h2:=zg1 h1
   rw[h2] at h1;exact h1
  ·have e:imgF G fi (fN G j)=fun (i:Nat)=>(i:Int):=by
    funext i
    rw[imgF_at hok hj hf i,if_neg hg]
   rw[e]
   exact permB_id s
 ·have e:imgF G fi c=fun (i:Nat)=>(i:Int):=by
   funext i
   unfold imgF
   rw[dif_neg h]
  rw[e]
  exact permB_id s
theorem img_sh:Sh G s (imgF G fi) (fun c=>invP (imgF G fi c) s):=
 sh_of (len:=fun _=>s) fun k _=>img_perm hok hni hp k
theorem img_shape (h1:1≤s)(h2:s≤24)(h3:(s:Int)*G.n≤1000):ShP G (s:Int) (nF G) (fun _=>s) (imgF G fi):=by
 refine⟨by omega,by omega,h3,rfl,fun k _=>img_perm hok hni hp k,fun j hj ht i _=>?_⟩
 rw[imgF_at hok hj (.inl ht) i,if_neg]
 intro hg
 have:=(zd7.1 hg).1
 omega
end
theorem imgI_cases {G:Gl}{S:Int}{ni:Nat}{li:Nat→Nat}{fi:Nat→Nat→Int}(h:imgI G S ni li fi=0∨imgI G S ni li fi=110):askI G=0∧oneB G=true∧1≤S∧S≤24∧ni=gnN G (4*G.n)∧(∀k,k<ni→permB (li k) (fi k) S=true)∧S*G.n≤1000∧(imgI G S ni li fi=0↔IsP G S (nF G) (fun _=>S.toNat) (imgF G fi)):=by
 unfold imgI at h ⊢
 by_cases h0:askI G=0
 ·rw[if_pos h0] at h ⊢
  by_cases h1:oneB G=true∧1≤S∧S≤24
  ·rw[if_pos h1] at h ⊢
   by_cases h2:ni=gnN G (4*G.n)∧∀k,k<ni→permB (li k) (fi k) S=true
   ·rw[if_pos h2] at h ⊢
    by_cases h3:S*G.n≤1000
    ·rw[if_pos h3] at h ⊢
     refine⟨h0,h1.1,h1.2.1,h1.2.2,h2.1,h2.2,h3,?_⟩
     by_cases h4:IsP G S (nF G) (fun _=>S.toNat) (imgF G fi)
     ·rw[if_pos h4];exact⟨fun _=>h4,fun _=>rfl⟩
     ·rw[if_neg h4];exact⟨fun e=>by omega,fun e=>absurd e h4⟩
    ·rw[if_neg h3] at h;omega
   ·rw[if_neg h2] at h;omega
  ·rw[if_neg h1] at h;omega
 ·rw[if_neg h0] at h
  exfalso
  unfold askI at h h0
  cases hb:za9 G<;>cases hr:revB G<;>simp[hb,hr] at h h0
theorem img_law {G:Gl}{s ni:Nat}{li:Nat→Nat}{fi:Nat→Nat→Int}(h:imgI G (s:Int) ni li fi=0∨imgI G (s:Int) ni li fi=110){rels:List (List Int)}(hr:∀r,r∈rels→RelOf G r)(hm:∀q,q<6*G.n→MetE G rels q) :
  (∀r,r∈rels→∀i,i<s→actW li fi r i=i)↔imgI G (s:Int) ni li fi=0:=by
 obtain⟨h0,-,h1,h2,h3,h4,h5,h6⟩:=imgI_cases h
 have hok:=(askI_zero.1 h0).1
 rw[h6,pres_iff hok h3 h4 (img_sh hok h3 h4) hr hm]
 unfold IsP
 rw[Int.toNat_natCast]
 exact⟨fun a=>⟨img_shape hok h3 h4 (by omega) (by omega) h5,a⟩,fun a=>a.2⟩
end
section
def dcl (G:Gl)(u:RS):Nat:=(zb5 G).r2 (16*u.1+4*u.2.1+u.2.2.1)
theorem dcl_stp {G:Gl}{u v:RS}(hu:Rok G.n u)(h:stp G 2 u=some v):dcl G v=dcl G u:=by
 obtain⟨t,a,b,c,d⟩:=u
 have ht:=hu.t
 obtain⟨ha,hb,hc,hd⟩:=hu.l
 obtain⟨d1,d2,d3,d4,d5,d6⟩:=hu.d
 simp only at ht ha hb hc hd d1 d2 d3 d4 d5 d6
 unfold stp at h
 have e:rp (t,a,b,c,d) 2=c:=rfl
 simp only[e] at h
 by_cases hT:G.tet (4*t+c)<0
 ·rw[if_pos hT] at h;cases h
 ·rw[if_neg hT] at h
  injection h with h
  subst h
  have hm:=dr_meets (G:=G) (k:=4*t+c) (i:=a) (j:=b) hT ha hb d1 (by omega) (by omega) (4*G.n) (by omega)
  rw[show (4*t+c) / 4=t by omega] at hm
  unfold dcl
  rw[cls_r2]
  exact hm.symm
theorem dcl_itr {G:Gl}(hok:za9 G=true){s:RS}(hs:Rok G.n s):∀m u,itr G 2 s m=some u→dcl G u=dcl G s
 | 0,u,h=>by cases h;rfl
 | m+1,u,h=>by
  simp only[itr] at h
  cases e:itr G 2 s m with
  | none=>rw[e] at h;cases h
  | some x=>
   rw[e,Option.bind_some] at h
   rw[dcl_stp (zf7 hok hs e) h,dcl_itr hok hs m x e]
theorem pAB_of:∀a,a<4→∀b,b<4→a<b→∃e,e<6∧pA e=a∧pB e=b:=by decide
theorem no_swap {G:Gl}(hok:za9 G=true)(hr:∀i,i<nE G→revK G (6*G.n) i=false){s:RS}(hs:Rok G.n s){m:Nat}{u:RS}(h:itr G 2 s m=some u):¬(u.1=s.1∧u.2.1=s.2.2.1∧u.2.2.1=s.2.1):=by
 rintro⟨e1,e2,e3⟩
 have hd:=dcl_itr hok hs m u h
 unfold dcl at hd
 rw[e1,e2,e3] at hd
 have hv:=(rev_none hok).1 hr
 obtain⟨ha,hb,-,-⟩:=hs.l
 have hne:=hs.d.1
 have ht:=hs.t
 rcases Nat.lt_or_ge s.2.1 s.2.2.1 with c | c
 ·obtain⟨e,he,q1,q2⟩:=pAB_of _ ha _ hb c
  have h1:=hv (6*s.1+e) (by omega)
  have h2:=(rv1_iff hok (m:=6*s.1+e) (by omega)).2 (by
   rw[show (6*s.1+e) / 6=s.1 by omega,show (6*s.1+e) % 6=e by omega,q1,q2];exact hd.symm)
  rw[h1] at h2;cases h2
 ·obtain⟨e,he,q1,q2⟩:=pAB_of _ hb _ ha (by omega)
  have h1:=hv (6*s.1+e) (by omega)
  have h2:=(rv1_iff hok (m:=6*s.1+e) (by omega)).2 (by
   rw[show (6*s.1+e) / 6=s.1 by omega,show (6*s.1+e) % 6=e by omega,q1,q2];exact hd)
  rw[h1] at h2;cases h2
end
section
theorem fourth {a b c d x:Nat}(h:a<4∧b<4∧c<4∧d<4)(hx:x<4)(h1:a≠b)(h2:a≠c)(h3:a≠d)(h4:b≠c)(h5:b≠d)(h6:c≠d)(x1:a≠x)(x2:b≠x)(x3:c≠x):x=d:=by omega
theorem smB_self {G:Gl}(hok:za9 G=true)(hr:∀i,i<nE G→revK G (6*G.n) i=false){s:RS}(hs:Rok G.n s){m:Nat}{u:RS}(h:itr G 2 s m=some u) :
  smB (u.1:Int) (u.2.1:Int) (u.2.2.1:Int) (u.2.2.2.1:Int) (s.1:Int) (s.2.1:Int) (s.2.2.1:Int) (s.2.2.2.1:Int)=true↔u=s:=by
 have hn:=no_swap hok hr hs h
 have hu:=zf7 hok hs h
 obtain⟨t,a,b,c,d⟩:=u
 obtain⟨t',a',b',c',d'⟩:=s
 have hl:=hu.l
 have hd:=hu.d
 have hl':=hs.l
 have hd':=hs.d
 simp only at hl hd hl' hd' hn
 unfold smB
 simp only[Bool.and_eq_true,Bool.or_eq_true,beq_iff_eq,Int.natCast_inj]
 constructor
 ·rintro⟨⟨rfl,rfl⟩,⟨rfl,rfl⟩ | ⟨rfl,rfl⟩⟩
  ·obtain⟨d1,d2,d3,d4,d5,d6⟩:=hd
   obtain⟨f1,f2,f3,f4,f5,f6⟩:=hd'
   obtain rfl:=fourth hl hl'.2.2.2 d1 d2 d3 d4 d5 d6 f3 f5 f6
   rfl
  ·exact absurd ⟨rfl,rfl,rfl⟩ hn
 ·intro e
  cases e
  exact⟨⟨rfl,rfl⟩,.inl ⟨rfl,rfl⟩⟩
end
section
abbrev RB:=RS×Bool
def nxB (G:Gl)(u:RS):Bool:=(stp G 2 u).isSome
def pthB (G:Gl)(s:RS)(k:Nat):List RB:=(pth G 2 s k).map fun u=>(u,nxB G u)
theorem pthB_succ {G:Gl}{s u:RS}{k:Nat}(h:itr G 2 s k=some u):pthB G s (k+1)=pthB G s k++[(u,nxB G u)]:=by
 unfold pthB;rw[pth_succ h,List.map_append];rfl
def WalkN (G:Gl)(s:RS)(m:Nat):Prop:=0<m∧(∀i,i<m→itr G 2 s i≠none)∧(∀i,0<i→i<m→itr G 2 s i≠some s)∧(itr G 2 s m=none∨itr G 2 s m=some s)
theorem walk_has {G:Gl}(hok:za9 G=true){s:RS}(hs:Rok G.n s):∃m,WalkN G s m:=by
 obtain⟨k,hk0,hk1,hk2⟩:=itr_ends hok (.inl ⟨rfl,rfl⟩) hs
 have key:∀n,n≤k→(∃m,m≤n∧WalkN G s m)∨((∀i,i≤n→itr G 2 s i≠none)∧∀i,0<i→i≤n→itr G 2 s i≠some s):=fun n=>by
  induction n with
  | zero=>exact fun _=>.inr ⟨fun i hi=>by rw[show i=0 by omega];simp[itr],fun i h1 h2=>by omega⟩
  | succ n ih=>
   intro hn
   rcases ih (by omega) with ⟨m,hm,h⟩ | ⟨h1,h2⟩
   ·exact .inl ⟨m,by omega,h⟩
   ·by_cases e1:itr G 2 s (n+1)=none
    ·exact .inl ⟨n+1,Nat.le_refl _,by omega,fun i hi=>h1 i (by omega),fun i hi hi2=>h2 i hi (by omega),.inl e1⟩
    ·by_cases e2:itr G 2 s (n+1)=some s
     ·exact .inl ⟨n+1,Nat.le_refl _,by omega,fun i hi=>h1 i (by omega),fun i hi hi2=>h2 i hi (by omega),.inr e2⟩
     ·refine .inr ⟨fun i hi=>?_,fun i hi hi2=>?_⟩
      ·rcases Nat.lt_or_ge i (n+1) with c | c
       ·exact h1 i (by omega)
       ·rw[show i=n+1 by omega];exact e1
      ·rcases Nat.lt_or_ge i (n+1) with c | c
       ·exact h2 i hi (by omega)
       ·rw[show i=n+1 by omega];exact e2
 rcases key k (Nat.le_refl _) with ⟨m,-,h⟩ | ⟨h1,h2⟩
 ·exact⟨m,h⟩
 ·rcases hk2 with e | e
  ·exact absurd e (h1 k (Nat.le_refl _))
  ·exact absurd e (h2 k hk0 (Nat.le_refl _))
end
end Go.Proofs.Ytlckpgahijlmoaa
