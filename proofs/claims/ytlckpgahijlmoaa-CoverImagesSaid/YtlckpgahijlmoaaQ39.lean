/- cover's Orientation: what it returns. -/
import Derived.Test.YtlckpgahijlmoaaQ38
import Derived.Test.YtlckpgahijlmoaaQ32
import Derived.Test.YtlckpgahijlmoaaQ18
import Derived.Test.YtlckpgahijlmoaaQ29
import Derived.Laws.OwnMore
import Derived.Test.YtlckpgahijlmoaaQ36
set_option maxRecDepth 100000
set_option maxHeartbeats 8000000
namespace Go.Proofs.Ytlckpgahijlmoaa
section
theorem join_closed {p:Nat→Prop}{r:Nat→Nat}{M i j:Nat}(hr:∀x,x<M→(p x↔p (r x)))(hi:i<M)(hj:j<M)(hp:p i↔p j):∀x,x<M→(p x↔p (joinR r i j x)):=fun x hx=>by
 have h2:=hr i hi
 have h3:=hr j hj
 have h4:=hr x hx
 unfold joinR
 split
 ·rename_i e
  rw[h4,e]
  rcases Nat.le_total (r i) (r j) with q | q
  ·rw[Nat.max_eq_right q,Nat.min_eq_left q,←h2,←h3,hp]
  ·rw[Nat.max_eq_left q,Nat.min_eq_right q,←h2,←h3,hp]
 ·exact h4
theorem er_closed {G:Gl}(hok:za9 G=true){p:Nat→Prop}(hp:∀k e,k<4*G.n→¬G.tet k<0→e<6→pA e≠k % 4→pB e≠k % 4→(p (6*(k / 4)+e)↔p (6*G.T k+edN (G.P k (pA e)) (G.P k (pB e))))) :
  ∀m,m≤4*G.n→∀x,x<6*G.n→(p x↔p (lp (erF G) id m x))
 | 0,_,_,_=>Iff.rfl
 | m+1,hm,x,hx=>by
  have ih:=er_closed hok hp m (by omega)
  rw[ze0]
  by_cases ht:G.tet m<0
  ·rw[erF_lt ht];exact ih x hx
  ·rw[erF_ge ht]
   obtain⟨-,t2,t3⟩:=zc6 hok (show m<4*G.n by omega) ht
   have inner:∀e,e≤6→∀x,x<6*G.n→(p x↔p (lp (erE G m) (lp (erF G) id m) e x)):=fun e=>by
    induction e with
    | zero=>intro _ x hx;exact ih x hx
    | succ e ihe=>
     intro he x hx
     rw[ze0]
     by_cases q:pA e=m % 4∨pB e=m % 4
     ·rw[erE_eq q];exact ihe (by omega) x hx
     ·have hAB:pA e<4∧pB e<4∧pA e≠pB e:=by
       rcases (show e=0∨e=1∨e=2∨e=3∨e=4∨e=5 by omega) with rfl | rfl | rfl | rfl | rfl | rfl<;>decide
      have h1:=(t3 _ hAB.1).2
      have h2:=(t3 _ hAB.2.1).2
      have h3:=ok_inj hok (show m<4*G.n by omega) ht _ _ hAB.1 hAB.2.1 hAB.2.2
      have h4:=(edN_eq _ _ h1 h2 h3).2
      rw[erE_ne (fun z=>q (.inl z)) (fun z=>q (.inr z))]
      exact join_closed (ihe (by omega)) (by omega) (by omega) (hp m e (by omega) ht (by omega) (fun z=>q (.inl z)) (fun z=>q (.inr z))) x hx
   exact inner 6 (Nat.le_refl _) x hx
theorem frC_ends:∀e,e<6→frC e 4 0=pA e∧frC e 4 1=pB e:=by decide
theorem frC_face:∀e,e<6→∀f,f<4→pA e≠f→pB e≠f→f=frC e 4 2∨f=frC e 4 3:=by decide
section
variable {G:Gl}{f g:Nat→Nat→Int}{sh:Nat}(hok:za9 G=true)(hS:Sh G sh f g)
include hok hS
theorem RG_face {k e:Nat}(hk:k<4*G.n)(ht:¬G.tet k<0)(he:e<6)(h1:pA e≠k % 4)(h2:pB e≠k % 4) :
  ze1 G f g sh (frS (k / 4) e)↔ze1 G f g sh (frS (G.T k) (edN (G.P k (pA e)) (G.P k (pB e)))):=by
 have hs:=frS_ok (n:=G.n) (t:=k / 4) (e:=e) (by omega) he
 obtain⟨c0,c1⟩:=frC_ends e he
 have hkk:4*(k / 4)+k % 4=k:=by omega
 rcases frC_face e he (k % 4) (by omega) h1 h2 with hf | hf
 ·have hst:stp G 2 (frS (k / 4) e)=some (G.T k,G.P k (pA e),G.P k (pB e),G.P k (frC e 4 3),G.P k (frC e 4 2)):=by
   unfold stp
   show (if G.tet (4*(k / 4)+frC e 4 2)<0 then none else some (G.T (4*(k / 4)+frC e 4 2),G.P (4*(k / 4)+frC e 4 2) (frC e 4 0),G.P (4*(k / 4)+frC e 4 2) (frC e 4 1),G.P (4*(k / 4)+frC e 4 2) (frC e 4 3),G.P (4*(k / 4)+frC e 4 2) (frC e 4 2)))=_
   rw[←hf,hkk,if_neg ht,c0,c1]
  rw[RG_stp_iff hok hS hs hst,RG_frame hok hS (stp_ok hok hs hst)]
 ·have hs2:=sw23_ok hs
  have hst:stp G 2 (sw23 (frS (k / 4) e))=some (G.T k,G.P k (pA e),G.P k (pB e),G.P k (frC e 4 2),G.P k (frC e 4 3)):=by
   unfold stp
   show (if G.tet (4*(k / 4)+frC e 4 3)<0 then none else some (G.T (4*(k / 4)+frC e 4 3),G.P (4*(k / 4)+frC e 4 3) (frC e 4 0),G.P (4*(k / 4)+frC e 4 3) (frC e 4 1),G.P (4*(k / 4)+frC e 4 3) (frC e 4 2),G.P (4*(k / 4)+frC e 4 3) (frC e 4 3)))=_
   rw[←hf,hkk,if_neg ht,c0,c1]
  rw[←RG_sw23_iff hok hS hs,RG_stp_iff hok hS hs2 hst,RG_frame hok hS (stp_ok hok hs2 hst)]
theorem rings_all (h:ringsTo G f g sh (6*G.n)):∀q,q<6*G.n→ze1 G f g sh (frS (q / 6) (q % 6)):=fun q hq=>by
 have hcl:=er_closed hok (p:=fun q=>ze1 G f g sh (frS (q / 6) (q % 6))) (fun k e hk ht he h1 h2=>by
  obtain⟨-,t2,t3⟩:=zc6 hok hk ht
  have hAB:pA e<4∧pB e<4∧pA e≠pB e:=by
   rcases (show e=0∨e=1∨e=2∨e=3∨e=4∨e=5 by omega) with rfl | rfl | rfl | rfl | rfl | rfl<;>decide
  have h4:=(edN_eq _ _ (t3 _ hAB.1).2 (t3 _ hAB.2.1).2 (ok_inj hok hk ht _ _ hAB.1 hAB.2.1 hAB.2.2)).2
  show ze1 G f g sh (frS ((6*(k / 4)+e) / 6) ((6*(k / 4)+e) % 6))↔ze1 G f g sh (frS ((6*G.T k+edN (G.P k (pA e)) (G.P k (pB e))) / 6) ((6*G.T k+edN (G.P k (pA e)) (G.P k (pB e))) % 6))
  rw[show (6*(k / 4)+e) / 6=k / 4 by omega,show (6*(k / 4)+e) % 6=e by omega,show (6*G.T k+edN (G.P k (pA e)) (G.P k (pB e))) / 6=G.T k by omega,show (6*G.T k+edN (G.P k (pA e)) (G.P k (pB e))) % 6=edN (G.P k (pA e)) (G.P k (pB e)) by omega]
  exact RG_face hok hS hk ht he h1 h2) (4*G.n) (Nat.le_refl _) q hq
 rw[←cls_r3] at hcl
 obtain⟨u,hu⟩:=(cls_inv hok).2.2.1
 have hle:=hu.rle q hq
 have hid:=hu.idem q hq
 refine hcl.2 (h ((zb5 G).r3 q) (by omega) (fun q' hq' e=>?_))
 have h1:=cnt_inj (hu.idem q' (by omega)) (hu.idem ((zb5 G).r3 q) (by omega)) (show cnt (zb5 G).r3 ((zb5 G).r3 q')=cnt (zb5 G).r3 ((zb5 G).r3 ((zb5 G).r3 q)) from e)
 rw[hid] at h1
 have:=hu.rle q' (by omega)
 omega
end
theorem cov_iff {G:Gl}(hok:za9 G=true)(S:Int)(np:Nat)(len:Nat→Nat)(fp:Nat→Nat→Int):CovOK G S np len fp↔IsP G S np len fp:=by
 constructor
 ·intro h
  refine⟨⟨h.lo,h.hi,h.tets,h.num,h.perms,fun j hj hn i hi=>?_⟩,rings_all hok h.sh h.rings⟩
  have e:4*(j / 4)+j % 4=j:=by omega
  have:=h.free (j / 4) (j % 4) ((fD_first hok (by omega) (by omega)).2 (by rw[e];exact .inl hn)) (by rw[e];exact hn) i hi
  rwa [e] at this
 ·rintro⟨h1,h2⟩
  refine⟨h1.lo,h1.hi,h1.tets,h1.num,h1.perms,fun t f hs hn i hi=>?_,fun q hq _=>h2 q hq⟩
  cases hD:fD G (4*G.n) (t,f) with
  | none=>rw[hD] at hs;cases hs
  | some c=>
   obtain⟨j,hj,he,-⟩:=fD_some hD
   obtain⟨rfl,rfl⟩:t=j / 4∧f=j % 4:=by simpa using he
   rw[show 4*(j / 4)+j % 4=j by omega] at hn ⊢
   exact h1.free j hj hn i hi
end
section
open Go.RowKit Go.Shelf
noncomputable def rerI (G:Gl)(S:Int)(np:Nat)(len:Nat→Nat)(fp:Nat→Nat→Int):Int:=if askI G=0 then (if boolOf (IsP G S np len fp) then 0 else 110) else askI G
theorem askI_zero {G:Gl}:askI G=0↔za9 G=true∧∀i,i<nE G→revK G (6*G.n) i=false:=by
 unfold askI
 constructor
 ·intro h
  cases hok:za9 G with
  | false=>rw[hok] at h;cases h
  | true=>
   rw[hok] at h
   refine⟨rfl,fun i hi=>?_⟩
   cases hr:revK G (6*G.n) i with
   | false=>rfl
   | true=>rw[revB_true hi hr] at h;cases h
 ·rintro⟨h1,h2⟩
  rw[h1,revB_false h2];rfl
theorem asked_rerI {G:Gl}{S:Int}{np:Nat}{len:Nat→Nat}{fp:Nat→Nat→Int}{c:Int}(h:AskedErr G S np len fp c):c=rerI G S np len fp:=by
 unfold rerI
 rcases h with ⟨h1,rfl⟩ | ⟨h1,⟨i,hi,hr⟩,rfl⟩ | ⟨h1,h2,h3,rfl⟩ | ⟨h1,h2,h3,rfl⟩
 ·have:askI G=7:=by unfold askI;rw[h1];rfl
  rw[this];rfl
 ·have:askI G=8:=by unfold askI;rw[h1,revB_true hi hr];rfl
  rw[this];rfl
 ·rw[if_pos (askI_zero.2 ⟨h1,h2⟩),zd4 (fun q=>h3 ((cov_iff h1 S np len fp).2 q))];rfl
 ·rw[if_pos (askI_zero.2 ⟨h1,h2⟩),boolOf_true ((cov_iff h1 S np len fp).1 h3)];rfl
section
variable (G:Gl)(v:Value)(S:Int)(pv:Value)(np:Nat)(len:Nat→Nat)(fp:Nat→Nat→Int)(w:World)(hG:GlAt w.heap.size w v G)(hm:G.n≤9223372036854775807)(hpv:LLc w.heap.size w pv np len fp)(hlen:∀k,k<np→len k<4611686018427387904)(hnp:np<4611686018427387904)
include hG hm hpv hlen hnp
end
end
section
open Go.RowKit Go.Shelf
end
section
open Go.RowKit Go.Shelf
end
section
open Go.RowKit Go.Shelf
section
variable (G:Gl)(v:Value)(S:Int)(pv:Value)(np:Nat)(len:Nat→Nat)(fp:Nat→Nat→Int)(w:World)(hG:GlAt w.heap.size w v G)(hm:G.n≤9223372036854775807)(hpv:LLc w.heap.size w pv np len fp)(hlen:∀k,k<np→len k<4611686018427387904)(hnp:np<4611686018427387904)
include hG hm hpv hlen hnp
end
end
section
section
variable {G:Gl}(hok:za9 G=true)
include hok
theorem first_uniq {j k:Nat}(hj:j<4*G.n)(hk:k<4*G.n)(h1:isF G j)(h2:isF G k)(e:fN G j=fN G k):j=k:=by
 rcases fN_eq hok hj hk e with h | ⟨t,h⟩
 ·exact h
 ·subst h;exact absurd h1 ((isF_tb hok hj t).1 h2)
end
section
variable {G:Gl}{f g:Nat→Nat→Int}{s:Nat}{f2 g2:Nat→Nat→Int}{t:Nat}(hok:za9 G=true)(hS:Sh G s f g)(hsz:s*G.n≤1000)(hT:Sh (covG G f g s) t f2 g2)
include hok hS hsz hT
end
end
section
theorem lp_from {α:Type}{f:Nat→α→α}{p:α→Prop}{s:α}{k:Nat}(hk:∀s,p (f k s))(hf:∀i s,p s→p (f i s)):∀m,k<m→p (lp f s m)
 | 0,h=>absurd h (Nat.not_lt_zero k)
 | m+1,h=>by
  show p (f m (lp f s m))
  by_cases e:k=m
  ·subst e;exact hk _
  ·exact hf _ _ (lp_from hk hf m (by omega))
theorem dr_meets {G:Gl}{k i j:Nat}(ht:¬G.tet k<0)(hi:i<4)(hj:j<4)(h1:i≠j)(h2:i≠k % 4)(h3:j≠k % 4):∀m,k<m→lp (drF G) id m (16*(k / 4)+4*i+j)=lp (drF G) id m (16*G.T k+4*G.P k i+G.P k j):=fun m hm=>by
 have hJ:∀k' i' j' (r:Nat→Nat),r (16*(k / 4)+4*i+j)=r (16*G.T k+4*G.P k i+G.P k j)→drJ G k' i' j' r (16*(k / 4)+4*i+j)=drJ G k' i' j' r (16*G.T k+4*G.P k i+G.P k j):=fun k' i' j' r h=>by
  unfold drJ;split
  ·exact h
  ·exact join_keeps h _ _
 have hI:∀k' i' (r:Nat→Nat),r (16*(k / 4)+4*i+j)=r (16*G.T k+4*G.P k i+G.P k j)→drI G k' i' r (16*(k / 4)+4*i+j)=drI G k' i' r (16*G.T k+4*G.P k i+G.P k j):=fun k' i' r h=>
  lp_inv (p:=fun r:Nat→Nat=>r (16*(k / 4)+4*i+j)=r (16*G.T k+4*G.P k i+G.P k j)) h (fun j' _ r h=>hJ k' i' j' r h)
 refine lp_from (p:=fun r:Nat→Nat=>r (16*(k / 4)+4*i+j)=r (16*G.T k+4*G.P k i+G.P k j)) (k:=k) (fun r=>?_) (fun k' r h=>?_) m hm
 ·rw[drF_ge ht]
  refine lp_from (p:=fun r:Nat→Nat=>r (16*(k / 4)+4*i+j)=r (16*G.T k+4*G.P k i+G.P k j)) (k:=i) (fun r=>?_) (fun i' r h=>hI k i' r h) 4 hi
  unfold drI
  refine lp_from (p:=fun r:Nat→Nat=>r (16*(k / 4)+4*i+j)=r (16*G.T k+4*G.P k i+G.P k j)) (k:=j) (fun r=>?_) (fun j' r h=>hJ k i j' r h) 4 hj
  rw[drJ_ne h1 h2 h3];exact join_meets _ _ _
 ·unfold drF
  split
  ·exact h
  ·exact lp_inv (p:=fun r:Nat→Nat=>r (16*(k / 4)+4*i+j)=r (16*G.T k+4*G.P k i+G.P k j)) h (fun i' _ r h=>hI k' i' r h)
theorem revK_iff {G:Gl}{c:Nat}:∀M,revK G M c=true↔∃m,m<M∧rv1 G m=true∧eN G m=c
 | 0=>by simp[revK]
 | M+1=>by
  have ih:=revK_iff (G:=G) (c:=c) M
  by_cases h:rv1 G M=true
  ·simp only[revK,h,if_true]
   by_cases e:c=eN G M
   ·rw[if_pos e]
    exact⟨fun _=>⟨M,by omega,h,e.symm⟩,fun _=>rfl⟩
   ·rw[if_neg e,ih]
    exact⟨fun ⟨m,a,b⟩=>⟨m,by omega,b⟩,fun ⟨m,a,b,d⟩=>⟨m,by
     rcases Nat.lt_or_ge m M with q | q
     ·exact q
     ·obtain rfl:m=M:=by omega
      exact absurd d.symm e,b,d⟩⟩
  ·have h':rv1 G M=false:=by simpa using h
   simp only[revK,h',Bool.false_eq_true,if_false]
   rw[ih]
   exact⟨fun ⟨m,a,b⟩=>⟨m,by omega,b⟩,fun ⟨m,a,b,d⟩=>⟨m,by
    rcases Nat.lt_or_ge m M with q | q
    ·exact q
    ·obtain rfl:m=M:=by omega
     exact absurd b h,b,d⟩⟩
theorem eN_small {G:Gl}(hok:za9 G=true){m:Nat}(hm:m<6*G.n):eN G m<nE G:=by
 obtain⟨u,hu⟩:=(cls_inv hok).2.2.1
 have h1:=hu.idem m hm
 have h2:=hu.rle m hm
 exact cnt_lt _ h1 (by omega)
theorem rev_none {G:Gl}(hok:za9 G=true):(∀i,i<nE G→revK G (6*G.n) i=false)↔∀m,m<6*G.n→rv1 G m=false:=by
 constructor
 ·intro h m hm
  cases q:rv1 G m with
  | false=>rfl
  | true=>
   have:=h (eN G m) (eN_small hok hm)
   rw[(revK_iff (6*G.n)).2 ⟨m,hm,q,rfl⟩] at this;cases this
 ·intro h i _
  cases q:revK G (6*G.n) i with
  | false=>rfl
  | true=>
   obtain⟨m,a,b,-⟩:=(revK_iff _).1 q
   rw[h m a] at b;cases b
theorem pAB_lt:∀e,e<6→pA e<4∧pB e<4:=by decide
theorem rv1_iff {G:Gl}(hok:za9 G=true){m:Nat}(hm:m<6*G.n):rv1 G m=true↔(zb5 G).r2 (16*(m / 6)+4*pA (m % 6)+pB (m % 6))=(zb5 G).r2 (16*(m / 6)+4*pB (m % 6)+pA (m % 6)):=by
 obtain⟨u,hu⟩:=(cls_inv hok).2.1
 obtain⟨a,b⟩:=pAB_lt (m % 6) (by omega)
 unfold rv1 dN
 rw[beq_iff_eq]
 exact⟨fun h=>cnt_inj (hu.idem _ (by omega)) (hu.idem _ (by omega)) h,fun h=>by rw[h]⟩
section
variable {G:Gl}{f g:Nat→Nat→Int}{s:Nat}(hok:za9 G=true)(hS:Sh G s f g)(hsz:s*G.n≤1000)
include hok hS hsz
end
end
section
open Go.RowKit Go.Shelf Go.Maps
theorem MapR.noCell {α β:Type}{W:World}{ok:α→Prop}{κ:α→Value}{ν:β→Value}{b r n:Nat}{D:α→Option β}{left:α→Bool}{cnt:Nat}(h:MapR W ok κ ν b r n D left cnt):∀i y,W.cell? ⟨r,i,none⟩≠some y:=by
 obtain⟨es,clock,since,seen,c0,_,_,_,_,_,hr,_⟩:=h
 intro i y
 simp[World.cell?,hr]
theorem MapR.noOwn {α β:Type}{W:World}{ok:α→Prop}{κ:α→Value}{ν:β→Value}{b r n:Nat}{D:α→Option β}{left:α→Bool}{cnt:Nat}(h:MapR W ok κ ν b r n D left cnt){base size k:Nat}{e:TypeId}{v:Value}{xs:List Value}(ho:W.ownsRow base e size v k xs):v.ownBlock≠some r:=by
 intro hv
 obtain⟨es,clock,since,seen,c0,_,_,_,_,_,hr,_⟩:=h
 rcases ho.2 with ⟨rfl,_⟩ | ⟨g,cap,cur,rfl,_,hg,_⟩
 ·cases hv
 ·injection hv with hv
  subst hv
  rw[hr] at hg;cases hg
end
section
open Go.RowKit Go.Shelf Go.Maps
def ROWx (W:World)(D l:Nat)(f:Nat→Int)(ob:Option Nat)(x:Value):Prop:=
 ∃(a:Option Addr) (d cap:Nat),x=.slice a l cap∧(0<l→a=some ⟨d,0,none⟩∧D<d∧d<W.heap.size∧ob≠some d)∧∀i,i<l→W.cell? ⟨d,i,none⟩=some (.int .i64 (f i))
theorem ROWx.kept {W W':World}{D:Nat}{ob row:Option Nat}{l:Nat}{f:Nat→Int}{x:Value}(h:ROWx W D l f ob x)(hg:W.grownBy W' row)(hr:row=none∨row=ob∨(∃r,row=some r∧r≤D)∨∃r,row=some r∧∀d,d<W.heap.size→(∃i y,W.cell? ⟨d,i,none⟩=some y)→d≠r):ROWx W' D l f ob x:=by
 obtain⟨a,d,cap,e,h2,h3⟩:=h
 refine⟨a,d,cap,e,fun hp=>?_,fun i hi=>hg.cell (h3 i hi) (fun q=>?_)⟩
 ·obtain⟨q1,q2,q3,q4⟩:=h2 hp
  exact⟨q1,q2,Nat.lt_of_lt_of_le q3 hg.size,q4⟩
 ·obtain⟨q1,q2,q3,q4⟩:=h2 (by omega)
  change some d=row at q
  rcases hr with r | r | ⟨r,r1,r2⟩ | ⟨r,r1,r2⟩
  ·rw[r] at q;cases q
  ·exact q4 (r.symm.trans q.symm)
  ·rw[r1] at q;injection q with q;omega
  ·rw[r1] at q;injection q with q;exact r2 d q3 ⟨i,_,h3 i hi⟩ q
structure COx (W0 W:World)(D k:Nat)(S:Int)(L:Nat)(F:Nat→Nat→Int)(uv:Value)(xs:List Value):Prop where
 own:W.ownsRow (D+1) 35 1 uv k xs
 row:∀(j:Nat) (x:Value),xs[j]?=some x→ROWx W D L (F j) uv.ownBlock x
 d0:W.cell? ⟨D,0,none⟩=some (.int .i64 S)
 d1:W.cell? ⟨D,1,none⟩=some uv
 f1:W.frozen? ⟨D,1,none⟩=false
 bel:Below D W0 W
theorem COx.kept {W0 W W':World}{D k:Nat}{S:Int}{L:Nat}{F:Nat→Nat→Int}{uv:Value}{xs:List Value}(h:COx W0 W D k S L F uv xs)(hg:W.grownBy W' none):COx W0 W' D k S L F uv xs:=
 ⟨h.own.kept hg (by cases uv.ownBlock<;>simp),fun j x hx=>(h.row j x hx).kept hg (.inl rfl),hg.cell h.d0 (by simp),hg.cell h.d1 (by simp),(hg.frozen_far ⟨D,1,none⟩ (za0 h.d1) (by simp)).trans h.f1,h.bel.grown hg (by have:=za0 h.d0;simp only at this;omega) (fun r e=>by cases e)⟩
theorem COx.ne {W0 W:World}{D k:Nat}{S:Int}{L:Nat}{F:Nat→Nat→Int}{uv:Value}{xs:List Value}(h:COx W0 W D k S L F uv xs):some D≠uv.ownBlock:=fun e=>by
 have:=(h.own.lt D e.symm).1;omega
theorem COx.push {W0 W W2 w2:World}{D k g gc:Nat}{S:Int}{L:Nat}{F:Nat→Nat→Int}{uv x:Value}{xs:List Value}(h:COx W0 W D k S L F uv xs)(hg:W.grownBy W2 none)(hx:∀ob,(∀d,ob=some d→d<W.heap.size∨d=W2.heap.size)→ROWx W2 D L (F k) ob x)
  (hown:w2.ownsRow (D+1) 35 1 (.slice (some ⟨g,0,none⟩) (k+1) gc) (k+1) (xs++[x])) (hgrow:W2.grownBy w2 uv.ownBlock) (hat:uv.ownBlock=some g∨g=W2.heap.size) :
  COx W0 (w2.setCell ⟨D,1,none⟩ (.slice (some ⟨g,0,none⟩) (k+1) gc)) D (k+1) S L F (.slice (some ⟨g,0,none⟩) (k+1) gc) (xs++[x]):=by
 have h1:=h.kept hg
 have hDl:=za0 h.d0
 simp only at hDl
 have hxl:=h.own.1
 have hs2:=hg.size
 have hsc:=za1 w2 D 1 (.slice (some ⟨g,0,none⟩) (k+1) gc)
 have hob:∀j,uv.ownBlock=some j→D+1≤j∧j<W.heap.size:=fun j hj=>h.own.lt j hj
 have hgD:g≠D:=fun e=>by
  rcases hat with q | q
  ·have:=(hob g q).1;omega
  ·omega
 have sh:∀f y,ROWx W2 D L f uv.ownBlock y→ROWx (w2.setCell ⟨D,1,none⟩ (.slice (some ⟨g,0,none⟩) (k+1) gc)) D L f (Value.slice (some ⟨g,0,none⟩) (k+1) gc).ownBlock y:=fun f y hy=>by
  obtain⟨a,d,cap,e,p2,p3⟩:=hy
  refine⟨a,d,cap,e,fun hp=>?_,fun i hi=>?_⟩
  ·obtain⟨q1,q2,q3,q4⟩:=p2 hp
   refine⟨q1,q2,by simp only[World.size_setCell];exact Nat.lt_of_lt_of_le q3 hgrow.size,?_⟩
   simp only[Value.ownBlock,ne_eq,Option.some.injEq]
   intro q
   rcases hat with z | z
   ·subst q;exact q4 z
   ·omega
  ·obtain⟨q1,q2,q3,q4⟩:=p2 (by omega)
   exact hsc.cell (hgrow.cell (p3 i hi) (fun q=>q4 q.symm)) (by simp;omega)
 refine⟨hown.kept hsc (.inr (by simp only[Value.ownBlock,ne_eq,Option.some.injEq];exact hgD)),fun j y hy=>?_,?_,World.cell?_setCell_same _ _ _ (hgrow.cell h1.d1 h.ne),?_,?_⟩
 ·rcases Nat.lt_or_ge j xs.length with hj | hj
  ·rw[List.getElem?_append_left hj] at hy
   exact sh _ y (h1.row j y hy)
  ·rw[List.getElem?_append_right hj] at hy
   obtain⟨hyx,hjk⟩:y=x∧j=k:=by
    cases hjj:j-xs.length with
    | zero=>rw[hjj] at hy;exact⟨by simpa using hy.symm,by omega⟩
    | succ m=>rw[hjj] at hy;simp at hy
   subst hyx hjk
   exact sh _ y (hx uv.ownBlock (fun d hd=>.inl (hob d hd).2))
 ·exact (World.cell?_setCell_other (a:=⟨D,1,none⟩) (b:=⟨D,0,none⟩) _ _ (by simp)).trans (hgrow.cell h1.d0 h.ne)
 ·rw[World.frozen?_setCell];exact (hgrow.frozen_far ⟨D,1,none⟩ (za0 h1.d1) h.ne).trans h1.f1
 ·exact (h1.bel.grown hgrow (by omega) (fun r e=>by have:=(hob r e).1;omega)).setCell (by show D≤D;omega) _
theorem COx.put {W0 W W2:World}{D k g gc j:Nat}{S:Int}{L:Nat}{F:Nat→Nat→Int}{f:Nat→Int}{x:Value}{xs:List Value}(h:COx W0 W D k S L F (.slice (some ⟨g,0,none⟩) k gc) xs)(hg:W.grownBy W2 none)(hx:ROWx W2 D L f (some g) x) :
  COx W0 (W2.setCell ⟨g,j,none⟩ x) D k S L (fun i=>if i=j then f else F i) (.slice (some ⟨g,0,none⟩) k gc) (xs.set j x):=by
 have h1:=h.kept hg
 obtain⟨s1,s2⟩:=h1.own.stored j x
 have hgD:=(h.own.lt g rfl).1
 have hne:some D≠some g:=by simp;omega
 refine⟨s1,fun i y hy=>?_,s2.cell h1.d0 hne,s2.cell h1.d1 hne,(s2.frozen_far ⟨D,1,none⟩ (za0 h1.d1) hne).trans h1.f1,h1.bel.setCell (by show D≤g;omega) _⟩
 refine ROWx.kept ?_ s2 (.inr (.inl rfl))
 by_cases e:j=i
 ·subst e
  have hjl:j<(xs.set j x).length:=(List.getElem?_eq_some_iff.1 hy).1
  rw[List.length_set] at hjl
  rw[List.getElem?_set_self hjl] at hy
  injection hy with hy;subst hy;rw[if_pos rfl];exact hx
 ·rw[List.getElem?_set_ne e] at hy
  rw[if_neg (fun q=>e q.symm)]
  exact h1.row i y hy
theorem COx.keptR {W0 W W':World}{D k R:Nat}{S:Int}{L:Nat}{F:Nat→Nat→Int}{uv:Value}{xs:List Value}(h:COx W0 W D k S L F uv xs)(hD:D<R)(hR:∀i y,W.cell? ⟨R,i,none⟩≠some y)(hR2:uv.ownBlock≠some R)(hg:W.grownBy W' (some R)):COx W0 W' D k S L F uv xs:=by
 have hne:some D≠some R:=by simp;omega
 exact⟨h.own.kept hg (.inr hR2),fun j x hx=>(h.row j x hx).kept hg (.inr (.inr (.inr ⟨R,rfl,fun d _ ⟨i,y,hy⟩ e=>hR i y (by rw[←e];exact hy)⟩))),hg.cell h.d0 hne,hg.cell h.d1 hne,(hg.frozen_far ⟨D,1,none⟩ (za0 h.d1) hne).trans h.f1,h.bel.grown hg (by have:=za0 h.d0;simp only at this;omega) (fun r e=>by cases e;omega)⟩
theorem COx.at {W0 W:World}{D k j:Nat}{S:Int}{L:Nat}{F:Nat→Nat→Int}{uv:Value}{xs:List Value}(h:COx W0 W D k S L F uv xs)(hj:j<k):∃g gc x,uv=.slice (some ⟨g,0,none⟩) k gc∧W.cell? ⟨g,j,none⟩=some x∧W.frozen? ⟨g,j,none⟩=false∧D<g∧g<W.heap.size:=by
 obtain⟨g,gc,hv,_⟩:=h.own.form (by omega)
 subst hv
 have hxl:=h.own.1
 have:=h.own.cellAt j (by omega)
 rw[List.getElem?_eq_getElem (by omega)] at this
 exact⟨g,gc,_,rfl,this,h.own.frozenAt j,by have:=(h.own.lt g rfl).1;omega,(h.own.lt g rfl).2⟩
theorem ROWx.of_row {W:World}{D d l cap:Nat}{ob:Option Nat}{f:Nat→Int}(h:zb7 W d l f)(hD:D<d)(ho:ob≠some d):ROWx W D l f ob (.slice (some ⟨d,0,none⟩) l cap):=
 ⟨_,d,cap,rfl,fun _=>⟨rfl,hD,h.lt,ho⟩,fun _i hi=>h.cell hi⟩
theorem COx.congr {W0 W:World}{D k:Nat}{S:Int}{L:Nat}{F F':Nat→Nat→Int}{uv:Value}{xs:List Value}(h:COx W0 W D k S L F uv xs)(e:∀j,j<k→∀i,i<L→F j i=F' j i):COx W0 W D k S L F' uv xs:=by
 have hxl:=h.own.1
 refine⟨h.own,fun j x hx=>?_,h.d0,h.d1,h.f1,h.bel⟩
 have hj:j<xs.length:=(List.getElem?_eq_some_iff.1 hx).1
 obtain⟨a,d,cap,e1,h2,h3⟩:=h.row j x hx
 exact⟨a,d,cap,e1,h2,fun i hi=>by rw[←e j (by omega) i hi];exact h3 i hi⟩
theorem COx.LLs {W0 W:World}{D k:Nat}{S:Int}{L:Nat}{F:Nat→Nat→Int}{uv:Value}{xs:List Value}(h:COx W0 W D k S L F uv xs):LLs W.heap.size W uv k (fun _=>L) F:=by
 have hxl:=h.own.1
 rcases h.own.2 with ⟨rfl,rfl⟩ | ⟨g,cap,cur,rfl,_,hgg,_⟩
 ·exact⟨none,0,0,0,rfl,fun h=>by omega,fun j hj=>by omega⟩
 ·refine⟨_,g,0,cap,rfl,fun _=>⟨rfl,(Array.getElem?_eq_some_iff.1 hgg).1⟩,fun j hj=>?_⟩
  have hx:xs[j]?=some xs[j]:=List.getElem?_eq_getElem (by omega)
  obtain⟨a,d,cap2,e,h2,h3⟩:=h.row j _ hx
  refine⟨xs[j],?_,a,d,0,cap2,e,fun hp=>⟨(h2 hp).1,(h2 hp).2.2.1⟩,fun i hi=>by rw[Nat.zero_add];exact h3 i hi⟩
  have:=h.own.cells (g:=g) rfl j _ hx
  rwa [Addr.add_mid] at this
theorem COx.LLn {W0 W:World}{D k:Nat}{S:Int}{L:Nat}{F:Nat→Nat→Int}{uv:Value}{xs:List Value}(h:COx W0 W D k S L F uv xs):LLn (D+1) W.heap.size W uv k (fun _=>L) F:=by
 have hxl:=h.own.1
 rcases h.own.2 with ⟨rfl,rfl⟩ | ⟨g,cap,cur,rfl,hge,hgg,_⟩
 ·exact⟨none,0,0,0,rfl,fun h=>by omega,fun j hj=>by omega⟩
 ·refine⟨_,g,0,cap,rfl,fun _=>⟨rfl,hge,(Array.getElem?_eq_some_iff.1 hgg).1⟩,fun j hj=>?_⟩
  have hx:xs[j]?=some xs[j]:=List.getElem?_eq_getElem (by omega)
  obtain⟨a,d,cap2,e,h2,h3⟩:=h.row j _ hx
  refine⟨a,d,0,cap2,?_,fun hp=>⟨(h2 hp).1,(h2 hp).2.1,(h2 hp).2.2.1⟩,fun i hi=>by rw[Nat.zero_add];exact h3 i hi⟩
  have:=h.own.cells (g:=g) rfl j _ hx
  rw[Addr.add_mid] at this
  rw[←e];exact this
end
section
open Go.RowKit Go.Shelf Go.Maps
def EnterErr (G:Gl)(c:Int):Prop:=(za9 G=false∧c=7)∨(za9 G=true∧(∃i,i<nE G∧revK G (6*G.n) i=true)∧c=8)∨(za9 G=true∧(∀i,i<nE G→revK G (6*G.n) i=false)∧c=0)
theorem enter_two (G:Gl)(v:Value)(w:World)(hG:GlAt w.heap.size w v G)(hm:G.n≤9223372036854775807) :
  Calls Try.prog 41 #[.agg #[v]] w fun e w'=>Below w.heap.size w w'∧∃pt c,e=.returned (.tuple #[pt,.int .i64 c])∧EnterErr G c∧(c≠0∨(c=0∧za9 G=true∧∃X mb vv ev tv lv dB rB,pt=.pointer (some ⟨X,0,none⟩)∧SP w' w.heap.size X mb v G (4*G.n) vv ev tv lv dB rB)):=by
 refine (enter_walk G v w hG hm).mono ?_
 rintro e w' ⟨hb,⟨h1,rfl⟩ | ⟨h1,h2,rfl⟩ | ⟨h1,h3,X,mb,vv,ev,tv,lv,dB,rB,rfl,h2⟩⟩
 ·exact⟨hb,_,7,rfl,.inl ⟨h1,rfl⟩,.inl (by omega)⟩
 ·exact⟨hb,_,8,rfl,.inr (.inl ⟨h1,h2,rfl⟩),.inl (by omega)⟩
 ·exact⟨hb,_,0,rfl,.inr (.inr ⟨h1,h3,rfl⟩),.inr ⟨rfl,h1,X,mb,vv,ev,tv,lv,dB,rB,rfl,h2⟩⟩
def OrAns (G:Gl)(e:Ending)(w':World):Prop:=∃c sh pv,e=.returned (.tuple #[.agg #[.int .i64 sh,pv],.int .i64 c]) ∧
 ((c≠0∧EnterErr G c∧sh=0∧pv=.slice none 0 0)∨(EnterErr G 0∧500<G.n∧c=2∧sh=0∧pv=.slice none 0 0)∨(EnterErr G 0∧G.n≤500∧c=0∧sh=2∧LLs w'.heap.size w' pv (nF G) (fun _=>2) (orF G)))
theorem cnt_surj {r:Nat→Nat}:∀{n c:Nat},c<cnt r n→∃k,k<n∧r k=k∧cnt r k=c
 | 0,c,h=>by simp[cnt] at h
 | n+1,c,h=>by
  simp only[cnt] at h
  by_cases e:r n=n
  ·rw[if_pos e] at h
   rcases Nat.lt_or_ge c (cnt r n) with q | q
   ·obtain⟨k,h1,h2,h3⟩:=cnt_surj q
    exact⟨k,by omega,h2,h3⟩
   ·exact⟨n,by omega,e,by omega⟩
  ·rw[if_neg e] at h
   obtain⟨k,h1,h2,h3⟩:=cnt_surj (show c<cnt r n by omega)
   exact⟨k,by omega,h2,h3⟩
def TurnI (G:Gl)(left:Nat×Nat→Bool)(F:Nat→Nat→Int):Prop:=∀p c,fD G (4*G.n) p=some c→∀i,i<2→F c i=if left p then (i:Int) else orF G c i
section
variable {G:Gl}(hok:za9 G=true)
include hok
theorem fD_place {p:Nat×Nat}{c:Nat}(h:fD G (4*G.n) p=some c):∃j,j<4*G.n∧p=(j / 4,j % 4)∧c=fN G j∧isF G j:=by
 obtain⟨j,h1,h2,h3⟩:=fD_some h
 refine⟨j,h1,h2,h3,?_⟩
 subst h2
 have:=fD_at hok (4*G.n) (Nat.le_refl _) (j / 4) (j % 4) (by omega)
 rw[show 4*(j / 4)+j % 4=j by omega] at this
 by_cases q:isF G j
 ·exact q
 ·rw[if_neg (fun x=>q x.2)] at this;rw[this] at h;cases h
theorem fD_inj {p p':Nat×Nat}{c:Nat}(h:fD G (4*G.n) p=some c)(h':fD G (4*G.n) p'=some c):p=p':=by
 obtain⟨j,a1,a2,a3,a4⟩:=fD_place hok h
 obtain⟨k,b1,b2,b3,b4⟩:=fD_place hok h'
 rcases fN_eq hok a1 b1 (by rw[←a3,←b3]) with e | ⟨t,e⟩
 ·rw[a2,b2,e]
 ·subst e;exact absurd a4 ((isF_tb hok a1 t).1 b4)
theorem fD_surj {c:Nat}(h:c<nF G):∃p,fD G (4*G.n) p=some c:=by
 obtain⟨k,h1,h2,h3⟩:=cnt_surj h
 refine⟨(k / 4,k % 4),?_⟩
 have:=fD_at hok (4*G.n) (Nat.le_refl _) (k / 4) (k % 4) (by omega)
 rw[show 4*(k / 4)+k % 4=k by omega,if_pos ⟨h1,(isF_root hok h1).1 h2⟩] at this
 rw[this];unfold fN;rw[h2,h3]
theorem TurnI.done {left:Nat×Nat→Bool}{F:Nat→Nat→Int}(h:TurnI G left F)(hl:∀p,left p=false):∀c,c<nF G→∀i,i<2→F c i=orF G c i:=fun c hc i hi=>by
 obtain⟨p,hp⟩:=fD_surj hok hc
 rw[h p c hp i hi,hl p];rfl
theorem TurnI.skip {left:Nat×Nat→Bool}{F:Nat→Nat→Int}(h:TurnI G left F){q f c:Nat}(hD:fD G (4*G.n) (q,f)=some c)(hn:¬(0≤G.tet (4*q+f)∧SignI (G.pm (4*q+f))=1)):TurnI G (fun x=>left x && !decide (x=(q,f))) F:=fun p c' hp i hi=>by
 rw[h p c' hp i hi]
 by_cases e:p=(q,f)
 ·subst e
  rw[hD] at hp;injection hp with hp;subst hp
  have:orF G c i=i:=by
   obtain⟨j,a1,a2,a3,a4⟩:=fD_place hok hD
   obtain⟨rfl,rfl⟩:q=j / 4∧f=j % 4:=by simpa using a2
   rw[show 4*(j / 4)+j % 4=j by omega,SignI_R] at hn
   unfold orF
   rw[if_neg (by rw[a3,tc_at hok a1 a4];exact hn)]
  simp[this]
 ·simp[e]
theorem TurnI.turn {left:Nat×Nat→Bool}{F:Nat→Nat→Int}(h:TurnI G left F){q f c:Nat}(hD:fD G (4*G.n) (q,f)=some c)(hn:0≤G.tet (4*q+f)∧SignI (G.pm (4*q+f))=1):TurnI G (fun x=>left x && !decide (x=(q,f))) (fun i=>if i=c then (fun i=>if i=0 then 1 else 0) else F i):=fun p c' hp i hi=>by
 by_cases e:p=(q,f)
 ·subst e
  rw[hD] at hp;injection hp with hp;subst hp
  have:orF G c i=1-i:=by
   obtain⟨j,a1,a2,a3,a4⟩:=fD_place hok hD
   obtain⟨rfl,rfl⟩:q=j / 4∧f=j % 4:=by simpa using a2
   rw[show 4*(j / 4)+j % 4=j by omega,SignI_R] at hn
   unfold orF
   rw[if_pos (by rw[a3,tc_at hok a1 a4];exact hn)]
  simp only[if_true,decide_true,Bool.not_true,Bool.and_false,this]
  rcases (show i=0∨i=1 by omega) with rfl | rfl<;>simp
 ·have hc:c'≠c:=fun ec=>e (fD_inj hok (by rw[←ec];exact hp) hD)
  simp only[hc,if_false,e,decide_false,Bool.not_false,Bool.and_true]
  exact h p c' hp i hi
end
theorem Orientation_two (G:Gl)(v:Value)(w:World)(hG:GlAt w.heap.size w v G)(hm:G.n≤9223372036854775807) :
  Calls Try.prog 10 #[.agg #[v]] w fun e w'=>Below w.heap.size w w'∧OrAns G e w':=by
 have HG:=Lib.hid hG
 obtain⟨a,cap,rfl⟩:∃a cap,v=.slice a G.n cap:=by obtain⟨a,_,_,cap,e,_⟩:=hG;exact⟨a,cap,e⟩
 clear hG
 generalize hN:w.heap.size=N at *
 go_enter Try.func10,Try.ntmps10
 go_wp2_with fail
 refine zb4 fun W0 hW=>?_
 have h0:Below N w W0∧W0.cell? ⟨N,0,none⟩=some (.slice a G.n cap)∧(∃x,W0.cell? ⟨N+1,0,none⟩=some x)∧(∃x,W0.cell? ⟨N+1,1,none⟩=some x)∧W0.frozen? ⟨N+1,0,none⟩=false∧W0.frozen? ⟨N+1,1,none⟩=false∧W0.heap.size=N+2:=by
  rw[hW];subst hN;exact⟨by (repeat' (first | assumption | exact Below.refl _ _ | refine za7 ?_ (by assumption) | refine zb2 ?_ _ | refine za5 ?_ | refine zb1 ?_ (by simp<;>omega) _)),by simp[go_sem],⟨_,by simp[go_sem];rfl⟩,⟨_,by simp[go_sem];rfl⟩,by simp[go_sem],by simp[go_sem],by simp⟩
 clear hW
 obtain⟨hb,c0,⟨r0,c10⟩,⟨r1,c11⟩,f10,f11,hz0⟩:=h0
 have HNN:=Lib.hid hN
 have h41:=enter_two G (.slice a G.n cap) W0 ((HG.out.below hb).mono (by omega)) hm
 refine h41.mono ?_
 clear h41
 rintro e W1 ⟨hb1,pt,c,rfl,herr,hcase⟩
 have HER:=Lib.hid herr;clear herr
 have hbw:=hb.trans (hb1.mono (by omega))
 have hsz1:=hb1.size
 have k0:=(hb1.cell (p:=⟨N,0,none⟩) (za0 c0)).trans c0
 have k10:=(hb1.cell (p:=⟨N+1,0,none⟩) (za0 c10)).trans c10
 have k11:=(hb1.cell (p:=⟨N+1,1,none⟩) (za0 c11)).trans c11
 have z10:=(hb1.frozen (p:=⟨N+1,0,none⟩) (za0 c10)).trans f10
 have z11:=(hb1.frozen (p:=⟨N+1,1,none⟩) (za0 c11)).trans f11
 have HE:=Lib.hid hbw
 have hNW:N+2≤W1.heap.size:=by omega
 clear hN hb hb1 hbw c0 c10 c11 f10 f11 hsz1
 rcases hcase with hc | ⟨rfl,hok,X,mb,vv,ev,tv,lv,dB,rB,rfl,hSP⟩
 ·have q1:(c !=0)=true:=by simpa using hc
  have HC0:=Lib.hid hc
  clear hc hz0
  go_wp2
  exact bodyPost_ret (v:=.tuple #[.agg #[.int .i64 0,.slice none 0 0],.int .i64 c]) (by simp[results,Try.results10,go_sem, *]) rfl ⟨((HE.out.setCell (by show N≤N+1;omega) _).setCell (by show N≤N+1;omega) _),c,0,_,rfl,.inl ⟨HC0.out,HER.out,rfl,rfl⟩⟩
 ·have hn:G.n≤1000:=by simp only[za9,Bool.and_eq_true,decide_eq_true_eq] at hok;exact hok.1
  have hF:nF G≤4000:=by have:=zg7 (zb5 G).r4 (4*G.n);unfold nF;omega
  have HS:=Hd2 hok hSP
  have x8a:=za4 hSP.c8
  obtain⟨F,hFe⟩:∃F,F=nF G:=⟨_,rfl⟩
  have hFe2:cnt (zb5 G).r4 (4*G.n)=F:=hFe.symm
  rw[hFe2] at x8a
  rw[←hFe] at hF
  have HF:=Lib.hid hFe
  clear hFe hFe2 hok hSP hz0
  rcases Nat.lt_or_ge 500 G.n with h5 | h5
  ·have q2:decide ((500:Int)<(G.n:Int))=true:=by simp;omega
   go_wp2
   exact bodyPost_ret (v:=.tuple #[.agg #[.int .i64 0,.slice none 0 0],.int .i64 2]) (by simp[results,Try.results10,go_sem, *]) rfl ⟨((HE.out.setCell (by show N≤N+1;omega) _).setCell (by show N≤N+1;omega) _),2,0,_,rfl,.inr (.inl ⟨HER.out,h5,rfl,rfl,rfl⟩)⟩
  ·have q2:decide ((500:Int)<(G.n:Int))=false:=by simp;omega
   go_wp2
   obtain⟨D,hD⟩:∃D,D=W1.heap.size:=⟨_,rfl⟩
   rw[←hD]
   refine zb3 fun W6 hW6=>?_
   have h6:COx W1 W6 D 0 2 2 idF (.slice none 0 0) []:=by
    rw[hW6]
    exact⟨World.ownsRow_nil _ _ _ _,fun j x hx=>by simp at hx,by rw[hD];simp[go_sem],by rw[hD];simp[go_sem],World.frozen?_alloc_at _ _ _ _ hD,(Below.refl _ _).alloc (by omega) _⟩
   have H5:=Hd5 k0 k10 k11 z10 z11
   have HD:=Lib.hid hD
   have H6:=Lib.hid h6
   clear h6 hD hW6 x8a k0 k10 k11 z10 z11
   go_loopw [29] (fun i wr=>∃(k:Nat) (uv:Value) (xs:List Value),k≤F∧i=.int .i64 k∧COx W1 wr D k 2 2 idF uv xs) (fun i _=>F-(intOf i).toNat)
   case atStart=>exact⟨0,_,_,by omega,rfl,H6.out⟩
   case round=>
    clear H6
    obtain⟨k,uv,xs,hk,rfl,hZ⟩:=hrel
    have HK:=Lib.hid hZ
    obtain⟨ua,uc,rfl⟩:=za8 hZ.own
    rcases Nat.lt_or_ge k F with hkF | hkF
    ·have d1:wr.drew.cell? ⟨D,1,none⟩=some (.slice ua k uc):=hZ.d1
     have hDl:=za0 hZ.d0
     simp only at hDl
     obtain⟨i3,hi3,hz30,hz31,hz32⟩:=info_parts info35
     have h42:Calls Try.prog 42 #[.int .i64 2] wr.drew (fun e w'=>e=.returned (.slice (some ⟨wr.heap.size,0,none⟩) 2 2)∧zb7 w' wr.heap.size 2 (fun i=>(i:Int))∧Below wr.drew.heap.size wr.drew w'):=identity_walk 2 (by omega) wr.drew
     have H42:=Lib.hid h42
     clear hZ h42
     go_wp2
     refine wp_region_noPanic ?_
     go_region_law (first
      |(go_simp;go_at_call 42;(with_reducible refine H42.out.mono ?_);rintro e w6 ⟨rfl,hrow,hb6⟩;have hk6:=(HK.out.kept (zb0 wr none)).kept (za6 hb6 (Nat.le_refl _) none);have c36:=hk6.d1;have c36a:=za4 c36;have hs6:=hb6.size;have H6:=Hd3 hk6 hrow hb6;clear hk6 hrow hb6)
      |(refine step_append_lies _ rfl (.tmp 32) (.tmp 34) 26 rfl (D+1) 35 i3 _ 1 24 und26 hi3 hz30 hz31 hz32 rfl (by omega) (.slice ua k uc) k xs rfl (H6.out.1.own.alloc _) ⟨w6.heap.size,0,none⟩ 1 1 [.slice (some ⟨wr.heap.size,0,none⟩) 2 2] rfl rfl (World.news_of_block (cs:=#[.slice (some ⟨wr.heap.size,0,none⟩) 2 2]) (MapKept.heap_alloc w6 _).1) (by simp[Value.oneCell']) (by omega) (by unfold maxLen;omega) (by omega) (by have:=za0 c36;simp at this ⊢;omega) (w6.heap.size+1) (by simp) ?_;intro g cp w8 h1 h2 h3 h4;have c1:=h2.cell (c36a _) H6.out.1.ne;have f1:=(h2.frozen_far ⟨D,1,none⟩ (za0 (c36a _)) H6.out.1.ne).trans (H6.out.1.kept (World.grownBy_alloc _ _ none)).f1;have HA:=Hd3 h1 h2 h3;clear h1 h2 h3 h4))
     all_goals refine NoPanic.normal ?_
     all_goals go_wp2_with fail
     all_goals exact⟨⟨k+1,_,_,by omega,by simp,COx.push HK.out (za2 (zb0 wr none) (za2 (za6 H6.out.2.2 (Nat.le_refl _) none) (World.grownBy_alloc _ _ none))) (fun ob hob=>ROWx.of_row (za3 H6.out.2.1 (World.grownBy_alloc _ _ none) (by simp)) hDl (fun e=>by rcases hob _ e with q | q<;>simp at q hs6<;>omega)) HA.out.1 HA.out.2.1 (HA.out.2.2.imp id (fun e=>by simpa using e))⟩,by simp[intOf];omega⟩
    ·obtain rfl:k=F:=by omega
     have HF2:=Hd2 hk hkF
     clear hk hkF
     have hcd:=hZ.bel
     have hSPr:=HS.out.2.below (show Below W1.heap.size W1 wr by rw[←HD.out];exact hcd)
     have x7:=hSPr.c7
     obtain⟨nn,hmap⟩:=hSPr.map
     have HM:=Lib.hid hmap
     clear hZ hcd hSPr hmap
     go_wp2_with (at_range;refine wpList_range rfl 78 _ rfl und78 HM.out rfl ?_;intro W8 cnt hM hg8 hs8)
     obtain⟨R,hR⟩:∃R,R=wr.heap.size:=⟨_,rfl⟩
     rw[←hR] at hM ⊢
     have hDR:D<R:=by have:=za0 HK.out.d0;simp only at this;omega
     have H8:=Hd3 (HK.out.kept hg8) hM hDR
     clear hM hg8 hs8 hDR hR x7
     go_frame
     go_loopg [] cnt (fun g wr=>∃left xs F,TurnI G left F∧COx W1 wr D k 2 2 F (.slice ua k uc) xs∧MapR wr okp kp vi mb R nn (fD G (4*G.n)) left g)
     case atStart=>exact⟨_,_,idF,fun p c hp i hi=>by simp[hp,idF],H8.out.1,H8.out.2.1⟩
     case round=>
      obtain⟨left,xs,F,hTI,hZ,hM⟩:=hrel
      have HTI:=Lib.hid hTI
      clear hTI
      have HK3:=Hd2 hZ hM
      clear hZ hM
      go_wp2_with (at_next;refine wpList_next (κ:=kp) (ν:=vi) rfl _ rfl HK3.out.2 (fun a a' _ _ h=>kp_inj a a' h) rfl ?_ ?_)
      ·intro hl0
       have HFin:=Lib.hid (HTI.out.done HS.out.1 (fun p=>hl0 p.1 p.2))
       clear hl0
       have hb5:=HK3.out.1.bel
       have lt5:∀{b o:Nat} {x:Value},W1.cell? ⟨b,o,none⟩=some x→b<D:=fun h=>by rw[HD.out];exact za0 h
       have y30:=(hb5.cell (p:=⟨N+1,0,none⟩) (lt5 H5.out.2.1)).trans H5.out.2.1
       have y31:=(hb5.cell (p:=⟨N+1,1,none⟩) (lt5 H5.out.2.2.1)).trans H5.out.2.2.1
       have g30:=(hb5.frozen (p:=⟨N+1,0,none⟩) (lt5 H5.out.2.1)).trans H5.out.2.2.2.1
       have g31:=(hb5.frozen (p:=⟨N+1,1,none⟩) (lt5 H5.out.2.2.1)).trans H5.out.2.2.2.2
       have d0:=HK3.out.1.d0
       have d1:=HK3.out.1.d1
       have HLL:=Lib.hid (HK3.out.1.congr (fun j hj i hi=>HFin.out j (by rw[←HF.out];exact hj) i hi)).LLn
       have HB:=Lib.hid (HE.out.trans ((HD.out▸hb5:Below W1.heap.size W1 _).mono (by omega)))
       clear hb5 lt5
       go_wp2
       refine bodyPost_ret (v:=.tuple #[.agg #[.int .i64 2,.slice ua k uc],.int .i64 0]) (by simp[results,Try.results10,go_sem, *]) rfl ⟨((HB.out.setCell (by show N≤N+1;omega) _).setCell (by show N≤N+1;omega) _),0,2,_,rfl,.inr (.inr ⟨HER.out,h5,rfl,rfl,?_⟩)⟩
       rw[←HF.out]
       have hD2:=HD.out
       have hl1:=HLL.out.kept (za1 _ (N+1) 0 (.int .i64 2)) (fun r e=>by cases e;omega)
       have hl2:=hl1.kept (za1 _ (N+1) 1 (.slice ua k uc)) (fun r e=>by cases e;omega)
       exact hl2.LLs.mono (by simp)
      ·intro tt ff c W9 cnt1 hok1 hleft hD1 hM1 hlt hg1 hs1 hen
       obtain⟨j,hj,hje,hc⟩:=fD_some hD1
       obtain⟨rfl,rfl⟩:tt=j / 4∧ff=j % 4:=by simpa using hje
       obtain⟨q,hq⟩:∃q,q=j / 4:=⟨_,rfl⟩
       obtain⟨f,hf⟩:∃f,f=j % 4:=⟨_,rfl⟩
       have hjt:j=4*q+f:=by omega
       have hqn:q<G.n:=by omega
       have hf4:f<4:=by omega
       rw[←hq,←hf] at hM1 hen hD1
       have HDD:=Lib.hid hD1
       have hck:c<k:=by rw[hc,HF.out];exact fN_lt HS.out.1 hj
       have hRc:∀i y,wr.cell? ⟨R,i,none⟩≠some y:=HK3.out.2.noCell
       have hZ9:=HK3.out.1.keptR H8.out.2.2 hRc (HK3.out.2.noOwn HK3.out.1.own) hg1
       have H9:=Hd3 hZ9 hM1 hlt
       have hRl:=hM1.ltr
       clear hq hf hok1 hleft hD1 hM1 hlt hg1 hs1 hje hj hc hjt hZ9 hRc
       unfold kp vi at hen
       unfold kp vi
       go_wp2
       obtain⟨A,hA⟩:∃A,A=W9.heap.size:=⟨_,rfl⟩
       rw[←hA]
       refine zb3 fun Wb hWb=>?_
       have hL:COx W1 Wb D k 2 2 F (.slice ua k uc) xs∧MapR Wb okp kp vi mb R nn (fD G (4*G.n)) (fun x=>left x && !decide (x=(q,f))) cnt1∧Wb.cell? ⟨A,0,none⟩=some (.int .i64 (q:Int))∧Wb.cell? ⟨A,1,none⟩=some (.int .i64 (f:Int)):=by
        have hal:=World.grownBy_alloc W9 (.cells #[.int .i64 (q:Int),.int .i64 (f:Int)] 83) none
        rw[←hWb] at hal
        exact⟨H9.out.1.kept hal,H9.out.2.1.kept hal (by simp) (by simp),by rw[hWb,hA];simp[go_sem],by rw[hWb,hA];simp[go_sem]⟩
       have hRA:R≤A:=by omega
       clear hWb hA hen
       obtain⟨_,gb,go,_,hge,hga,hgc⟩:=HG.out
       simp only[Value.slice.injEq,true_and] at hge
       obtain⟨hge1,hge2⟩:=hge
       subst hge1 hge2
       obtain⟨rfl,hgN⟩:=hga (by omega)
       have hbN:Below N w Wb:=HE.out.trans ((HD.out▸hL.1.bel:Below W1.heap.size W1 Wb).mono (by omega))
       have lt5:∀{b o:Nat} {x:Value},W1.cell? ⟨b,o,none⟩=some x→b<D:=fun h=>by rw[HD.out];exact za0 h
       have y0:Wb.cell? ⟨N,0,none⟩=some (.slice (some ⟨gb,go,none⟩) G.n cap):=(hL.1.bel.cell (p:=⟨N,0,none⟩) (lt5 H5.out.1)).trans H5.out.1
       obtain⟨fb0,fb⟩:=hgc (4*q+f) (by omega)
       rw[show go+5*(4*q+f)=go+q*20+f*5 by omega] at fb0 fb
       have fw:∀o x,w.cell? ⟨gb,o,none⟩=some x→Wb.cell? ⟨gb,o,none⟩=some x:=fun o x hx=>(hbN.cell (p:=⟨gb,o,none⟩) hgN).trans hx
       have p0:=fw _ _ fb0
       have p1:=fw _ _ (fb 0 (by omega))
       have p2:=fw _ _ (fb 1 (by omega))
       have p3:=fw _ _ (fb 2 (by omega))
       have p4:=fw _ _ (fb 3 (by omega))
       rw[Nat.add_zero] at p1
       have a0:Wb.cell? ⟨A,0,none⟩=some (.int .i64 (q:Int)):=hL.2.2.1
       have a1:Wb.cell? ⟨A,1,none⟩=some (.int .i64 (f:Int)):=hL.2.2.2
       have y0a:=za4 y0
       have p0a:=za4 p0
       have p1a:=za4 p1
       have p2a:=za4 p2
       have p3a:=za4 p3
       have p4a:=za4 p4
       have a0a:=za4 a0
       have a1a:=za4 a1
       have q0:0≤(q:Int):=by omega
       have qn:(q:Int)<(G.n:Int):=by omega
       have f0:0≤(f:Int):=by omega
       have f4:(f:Int)<4:=by omega
       have HL:=Hd2 hL hbN
       clear hL hbN lt5 fw fb fb0 hga hgc
       go_region_held3 (fun w'=>w'.cell? ⟨N,0,none⟩=some (.slice (some ⟨gb,go,none⟩) G.n cap)∧w'.cell? ⟨A,0,none⟩=some (.int .i64 (q:Int))∧w'.cell? ⟨A,1,none⟩=some (.int .i64 (f:Int)) ∧
         w'.cell? ⟨gb,go+q*20+f*5,none⟩=some (.int .i64 (G.tet (4*q+f)))∧w'.cell? ⟨gb,go+q*20+f*5+1,none⟩=some (.int .i64 (G.pm (4*q+f) 0))∧w'.cell? ⟨gb,go+q*20+f*5+1+1,none⟩=some (.int .i64 (G.pm (4*q+f) 1))∧w'.cell? ⟨gb,go+q*20+f*5+1+2,none⟩=some (.int .i64 (G.pm (4*q+f) 2))∧w'.cell? ⟨gb,go+q*20+f*5+1+3,none⟩=some (.int .i64 (G.pm (4*q+f) 3)))
        (first | exact⟨y0,a0,a1,p0,p1,p2,p3,p4⟩ | exact⟨y0a _,a0a _,a1a _,p0a _,p1a _,p2a _,p3a _,p4a _⟩)
        (fail)
       generalize hWc:World.drew (World.alloc Wb (Obj.cells #[.int .i64 (G.tet (4*q+f)),.int .i64 (G.pm (4*q+f) 0),.int .i64 (G.pm (4*q+f) 1),.int .i64 (G.pm (4*q+f) 2),.int .i64 (G.pm (4*q+f) 3)] 87))=Wc
       obtain⟨E,hE⟩:∃E,E=Wb.heap.size:=⟨_,rfl⟩
       have hcc:Wb.grownBy Wc none∧Wc.cell? ⟨E,0,none⟩=some (.int .i64 (G.tet (4*q+f)))∧Wc.cell? ⟨E,1,none⟩=some (.int .i64 (G.pm (4*q+f) 0))∧Wc.cell? ⟨E,2,none⟩=some (.int .i64 (G.pm (4*q+f) 1))∧Wc.cell? ⟨E,3,none⟩=some (.int .i64 (G.pm (4*q+f) 2))∧Wc.cell? ⟨E,4,none⟩=some (.int .i64 (G.pm (4*q+f) 3)):=by
        rw[←hWc,hE]
        refine⟨?_,by simp[go_sem],by simp[go_sem],by simp[go_sem],by simp[go_sem],by simp[go_sem]⟩
        exact za2 (World.grownBy_alloc Wb _ none) (zb0 _ none)
       rw[←hE]
       obtain⟨hcg,e0,e1,e2,e3,e4⟩:=hcc
       clear hWc hE y0 a0 a1 p0 p1 p2 p3 p4 y0a a0a a1a p0a p1a p2a p3a p4a
       have HC:=Hd2 (HL.out.1.1.kept hcg) (HL.out.1.2.1.kept hcg (by simp) (by simp))
       clear hcg
       obtain⟨T,hT⟩:∃T,T=G.tet (4*q+f):=⟨_,rfl⟩
       rw[←hT] at e0
       have HTT:=Lib.hid hT
       clear hT
       rcases Int.lt_or_le T 0 with hT0 | hT0
       ·have q1:decide (0≤T)=false:=by simp;omega
        go_wp2
        go_roundg cnt1
        case measure=>exact H9.out.2.2
        case rel=>exact⟨_,_,_,HTI.out.skip HS.out.1 HDD.out (fun x=>by rw[←HTT.out] at x;omega),HC.out.1,HC.out.2⟩
       ·have q1:decide (0≤T)=true:=by simp;omega
        have h43:=Sign_walk (G.pm (4*q+f)) Wc
        have H43:=Lib.hid h43
        clear h43
        obtain⟨z,hz⟩:∃z,z=SignI (G.pm (4*q+f)):=⟨_,rfl⟩
        rw[←hz] at H43
        have HZZ:=Lib.hid hz
        clear hz
        by_cases hz1:z=1
        ·subst hz1
         go_wp2_with ((go_at_call 43;(with_reducible refine H43.out.mono ?_);rintro e w4 ⟨rfl,hb4⟩;have hc4:=HC.out.1.kept (za6 hb4 (Nat.le_refl _) none);have hm4:=HC.out.2.kept (za6 hb4 (Nat.le_refl _) none) (by simp) (by simp);obtain⟨g,gc,xo,hue,y2,z2,hDg,hgs⟩:=hc4.at hck;obtain⟨rfl,-,rfl⟩:ua=some ⟨g,0,none⟩∧k=k∧uc=gc:=(by simpa using hue);have d1:=hc4.d1;have H4:=Hd2 hc4 hm4;clear hc4 hm4 hb4 hue))
         go_roundg cnt1
         case measure=>exact H9.out.2.2
         case rel=>
          have hal:=World.grownBy_alloc w4 (.cells #[.int .i64 1,.int .i64 0] 3) none
          rw[←World.setCell_alloc_past _ _ _ _ hgs]
          refine⟨_,_,_,HTI.out.turn HS.out.1 HDD.out ⟨by rw[←HTT.out];exact hT0,HZZ.out.symm⟩,COx.put (j:=c) (f:=fun i=>if i=0 then 1 else 0) H4.out.1 hal ⟨_,w4.heap.size,2,rfl,fun _=>⟨rfl,by omega,by simp,by simp;omega⟩,fun i hi=>?_⟩,(H4.out.2.kept hal (by simp) (by simp)).kept (za1 _ g c _) ?_ ?_⟩
          ·rcases (show i=0∨i=1 by omega) with rfl | rfl<;>simp[go_sem]
          ·have hmb:mb<W1.heap.size:=by
            obtain⟨_,hm5⟩:=HS.out.2.map
            exact hm5.lt
           have:=HD.out
           simp;omega
          ·have:=H4.out.2.noOwn H4.out.1.own
           simpa [Value.ownBlock,eq_comm] using this
        ·have q2:(z==1)=false:=by simpa using hz1
         go_wp2_with ((go_at_call 43;(with_reducible refine H43.out.mono ?_);rintro e w4 ⟨rfl,hb4⟩;have hc4:=HC.out.1.kept (za6 hb4 (Nat.le_refl _) none);have hm4:=HC.out.2.kept (za6 hb4 (Nat.le_refl _) none) (by simp) (by simp);have H4:=Hd2 hc4 hm4;clear hc4 hm4 hb4))
         go_roundg cnt1
         case measure=>exact H9.out.2.2
         case rel=>exact⟨_,_,_,HTI.out.skip HS.out.1 HDD.out (fun x=>hz1 (by rw[HZZ.out];exact x.2)),H4.out.1,H4.out.2⟩
end
end Go.Proofs.Ytlckpgahijlmoaa
