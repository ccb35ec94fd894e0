/- cover's gluing: the gluing of a covering. -/
import Derived.Test.YtlckpgahijlmoaaQ15
import Derived.Test.YtlckpgahijlmoaaQ16
set_option maxRecDepth 100000
set_option maxHeartbeats 8000000
namespace Go.Proofs.Ytlckpgahijlmoaa
section
open Go.RowKit Go.Shelf Go.Maps
def covG (G:Gl)(f g:Nat→Nat→Int)(sh:Nat):Gl where
 n:=sh*G.n
 tet:=fun K=>if G.tet (K % (4*G.n))<0 then G.tet (K % (4*G.n)) else crF G f g (K % (4*G.n) / 4) (K % (4*G.n) % 4) (K / (4*G.n))*G.n+G.tet (K % (4*G.n))
 pm:=fun K=>G.pm (K % (4*G.n))
theorem covG_at (G:Gl)(f g:Nat→Nat→Int)(sh s t fc:Nat)(ht:t<G.n)(hf:fc<4) :
  (covG G f g sh).tet (4*(s*G.n+t)+fc)=(if G.tet (4*t+fc)<0 then G.tet (4*t+fc) else crF G f g t fc s*G.n+G.tet (4*t+fc))∧(covG G f g sh).pm (4*(s*G.n+t)+fc)=G.pm (4*t+fc):=by
 have h4:4*(s*G.n+t)+fc=(4*t+fc)+(4*G.n)*s:=by
  have:4*(s*G.n)=4*G.n*s:=by rw[Nat.mul_comm s,Nat.mul_assoc]
  omega
 have hm:(4*(s*G.n+t)+fc) % (4*G.n)=4*t+fc:=by
  rw[h4,Nat.add_mul_mod_self_left,Nat.mod_eq_of_lt (by omega)]
 have hd:(4*(s*G.n+t)+fc) / (4*G.n)=s:=by
  rw[h4,Nat.add_mul_div_left _ _ (by omega),Nat.div_eq_of_lt (by omega),Nat.zero_add]
 have e1:(4*t+fc) / 4=t:=by omega
 have e2:(4*t+fc) % 4=fc:=by omega
 simp only[covG,hm,hd,e1,e2,and_self]
def mixG (G:Gl)(X:Nat→Int)(m:Nat):Gl where
 n:=G.n
 tet:=fun k=>if k % 4<m then X k else G.tet k
 pm:=G.pm
theorem mix_zero (G:Gl)(X:Nat→Int)(t:Nat):rowA (mixG G X 0) t=rowA G t:=by simp[rowA,mixG]
theorem mix_cell (G:Gl)(X:Nat→Int)(m t:Nat)(hm:m<4)(j:Nat)(hj:j<20) :
  (rowA (mixG G X (m+1)) t)[j]?=if j=m*5 then some (.int .i64 (X (4*t+m))) else (rowA (mixG G X m) t)[j]?:=by
 have m0:(4*t) % 4=0:=by omega
 have m1:(4*t+1) % 4=1:=by omega
 have m2:(4*t+2) % 4=2:=by omega
 have m3:(4*t+3) % 4=3:=by omega
 have hm':m=0∨m=1∨m=2∨m=3:=by omega
 have hj':j=0∨j=1∨j=2∨j=3∨j=4∨j=5∨j=6∨j=7∨j=8∨j=9∨j=10∨j=11∨j=12∨j=13∨j=14∨j=15∨j=16∨j=17∨j=18∨j=19:=by omega
 rcases hm' with rfl | rfl | rfl | rfl<;>rcases hj' with rfl | rfl | rfl | rfl | rfl | rfl | rfl | rfl | rfl | rfl | rfl | rfl | rfl | rfl | rfl | rfl | rfl | rfl | rfl | rfl<;>simp[rowA,mixG,m0,m1,m2,m3]
theorem mix_all (G:Gl)(f g:Nat→Nat→Int)(sh s t:Nat)(ht:t<G.n):rowA (mixG G (fun k=>(covG G f g sh).tet (4*(s*G.n)+k)) 4) t=rowA (covG G f g sh) (s*G.n+t):=by
 have m0:(4*t) % 4=0:=by omega
 have m1:(4*t+1) % 4=1:=by omega
 have m2:(4*t+2) % 4=2:=by omega
 have m3:(4*t+3) % 4=3:=by omega
 have e0:4*(s*G.n)+4*t=4*(s*G.n+t):=by omega
 have e1:4*(s*G.n)+(4*t+1)=4*(s*G.n+t)+1:=by omega
 have e2:4*(s*G.n)+(4*t+2)=4*(s*G.n+t)+2:=by omega
 have e3:4*(s*G.n)+(4*t+3)=4*(s*G.n+t)+3:=by omega
 have p0:=(covG_at G f g sh s t 0 ht (by omega)).2
 have p1:=(covG_at G f g sh s t 1 ht (by omega)).2
 have p2:=(covG_at G f g sh s t 2 ht (by omega)).2
 have p3:=(covG_at G f g sh s t 3 ht (by omega)).2
 rw[Nat.add_zero,Nat.add_zero] at p0
 simp only[rowA,mixG,m0,m1,m2,m3,e0,e1,e2,e3,p0,p1,p2,p3,Nat.zero_lt_succ,if_true,Nat.reduceLT]
def gpre (H:Gl)(k:Nat):List Value:=(List.range k).flatMap fun t=>(rowA H t).toList
theorem gpre_succ (H:Gl)(k:Nat):gpre H (k+1)=gpre H k++(rowA H k).toList:=by simp[gpre,List.range_succ]
structure GO (W:World)(N:Nat)(uv:Value)(k:Nat)(xs:List Value):Prop where
 c2:W.cell? ⟨N,0,none⟩=some (.slice none 0 0)
 c4:W.cell? ⟨N+1,0,none⟩=some uv
 f2:W.frozen? ⟨N,0,none⟩=false
 f4:W.frozen? ⟨N+1,0,none⟩=false
 own:W.ownsRow N 88 20 uv k xs
 ne:uv.ownBlock≠some N∧uv.ownBlock≠some (N+1)
theorem GO.kept {W W':World}{N:Nat}{uv:Value}{k:Nat}{xs:List Value}(h:GO W N uv k xs){row:Option Nat}(hg:W.grownBy W' row)(h1:row≠some N)(h2:row≠some (N+1))(h3:row=none∨uv.ownBlock≠row):GO W' N uv k xs:=by
 refine⟨hg.cell h.c2 (fun e=>h1 e.symm),hg.cell h.c4 (fun e=>h2 e.symm),(hg.frozen_far ⟨N,0,none⟩ (za0 h.c2) (fun e=>h1 e.symm)).trans h.f2,(hg.frozen_far ⟨N+1,0,none⟩ (za0 h.c4) (fun e=>h2 e.symm)).trans h.f4,h.own.kept hg ?_,h.ne⟩
 rcases h3 with rfl | h3
 ·cases uv.ownBlock<;>simp
 ·exact .inr h3
theorem GO.push {W W2 w2:World}{N:Nat}{uv:Value}{k g gc:Nat}{H:Gl}(h:GO W N uv k (gpre H k))(hg:W.grownBy W2 none)
  (hown:w2.ownsRow N 88 20 (.slice (some ⟨g,0,none⟩) (k+1) gc) (k+1) (gpre H k++(rowA H k).toList)) (hgrow:W2.grownBy w2 uv.ownBlock) (hat:uv.ownBlock=some g∨g=W2.heap.size) :
  GO (w2.setCell ⟨N+1,0,none⟩ (.slice (some ⟨g,0,none⟩) (k+1) gc)) N (.slice (some ⟨g,0,none⟩) (k+1) gc) (k+1) (gpre H (k+1)):=by
 have h1:=h.kept hg (by simp) (by simp) (.inl rfl)
 have hsc:=za1 w2 (N+1) 0 (.slice (some ⟨g,0,none⟩) (k+1) gc)
 have hN:=za0 h1.c4
 simp only at hN
 have gN:g≠N:=by
  rcases hat with e | e
  ·intro q;subst q;exact h.ne.1 e
  ·omega
 have gN1:g≠N+1:=by
  rcases hat with e | e
  ·intro q;subst q;exact h.ne.2 e
  ·omega
 have n1:some N≠uv.ownBlock:=fun e=>h.ne.1 e.symm
 have n2:some (N+1)≠uv.ownBlock:=fun e=>h.ne.2 e.symm
 refine⟨hsc.cell (hgrow.cell h1.c2 n1) (by simp),World.cell?_setCell_same _ _ _ (hgrow.cell h1.c4 n2),?_,?_,?_,by simp[Value.ownBlock];exact⟨gN,gN1⟩⟩
 ·rw[World.frozen?_setCell];exact (hgrow.frozen_far ⟨N,0,none⟩ (za0 h1.c2) n1).trans h1.f2
 ·rw[World.frozen?_setCell];exact (hgrow.frozen_far ⟨N+1,0,none⟩ (za0 h1.c4) n2).trans h1.f4
 ·rw[gpre_succ];exact hown.kept hsc (.inr (by simp[Value.ownBlock];exact gN1))
theorem zb9.turn {W:World}{b t m:Nat}{G:Gl}{X:Nat→Int}(hm:m<4)(h:zb9 W b 0 (mixG G X m) t):zb9 (W.setCell ⟨b,m*5,none⟩ (.int .i64 (X (4*t+m)))) b 0 (mixG G X (m+1)) t:=by
 intro j hj
 rw[mix_cell G X m t hm j hj]
 by_cases e:j=m*5
 ·subst e
  rw[if_pos rfl]
  have h1:=h (m*5) hj
  have hs:(rowA (mixG G X m) t).size=20:=rfl
  rw[Array.getElem?_eq_getElem (by omega)] at h1
  rw[Nat.zero_add] at h1 ⊢
  exact World.cell?_setCell_same _ _ _ h1
 ·rw[if_neg e,←h j hj]
  exact World.cell?_setCell_other (a:=⟨b,m*5,none⟩) (b:=⟨b,0+j,none⟩) _ _ (by simp<;>omega)
theorem zb9.skipF {W:World}{b t m:Nat}{G:Gl}{X:Nat→Int}(hm:m<4)(hX:X (4*t+m)=G.tet (4*t+m))(h:zb9 W b 0 (mixG G X m) t):zb9 W b 0 (mixG G X (m+1)) t:=by
 intro j hj
 rw[mix_cell G X m t hm j hj]
 by_cases e:j=m*5
 ·subst e
  rw[if_pos rfl,h (m*5) hj,hX]
  have m0:(4*t) % 4=0:=by omega
  have m1:(4*t+1) % 4=1:=by omega
  have m2:(4*t+2) % 4=2:=by omega
  have m3:(4*t+3) % 4=3:=by omega
  have hm':m=0∨m=1∨m=2∨m=3:=by omega
  rcases hm' with rfl | rfl | rfl | rfl<;>simp[rowA,mixG,m0,m1,m2,m3]
 ·rw[if_neg e];exact h j hj
theorem zb9.kept {W W':World}{b o t:Nat}{G:Gl}(h:zb9 W b o G t){row:Option Nat}(hg:W.grownBy W' row)(hne:some b≠row):zb9 W' b o G t:=by
 intro j hj
 have hs:(rowA G t).size=20:=rfl
 have h1:=h j hj
 rw[Array.getElem?_eq_getElem (by omega)] at h1 ⊢
 exact hg.cell h1 hne
end
end Go.Proofs.Ytlckpgahijlmoaa
