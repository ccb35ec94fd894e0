/- R08.CopyGluing: a gluing with memory of its own. No condition. -/
import Derived.Test.YtlckpgahijlmoaaQ12
import Derived.Deep.RegionLaw
set_option maxRecDepth 100000
set_option maxHeartbeats 8000000
namespace Go.Proofs.Ytlckpgahijlmoaa
section
open Go.RowKit Go.Shelf
theorem und22:Try.prog.underlying 22=some (.slice 88):=by kernel_rfl
theorem info88:∃i,Try.prog.info? 88=some i∧(∃z,i.zero=some z∧z.cells.size=20)∧i.size=20∧i.bytes=160:=by
 have h:(Try.prog.info? 88).map (fun i=>(i.zero.map (fun z=>z.cells.size),i.size,i.bytes))=some (some 20,20,160):=by kernel_rfl
 cases hi:Try.prog.info? 88 with
 | none=>rw[hi] at h;cases h
 | some i=>
  rw[hi] at h
  simp only[Option.map_some,Option.some.injEq,Prod.mk.injEq] at h
  cases hz:i.zero with
  | none=>rw[hz] at h;simp at h
  | some z=>
   rw[hz] at h
   simp only[Option.map_some,Option.some.injEq] at h
   exact⟨i,rfl,⟨z,hz,h.1⟩,h.2.1,h.2.2⟩
def gcells (G:Gl):List Value:=(List.range G.n).flatMap fun t=>(rowA G t).toList
theorem flat_len {α:Type}(f:Nat→List α)(c:Nat)(hf:∀t,(f t).length=c)(n:Nat):((List.range n).flatMap f).length=n*c:=by
 induction n with
 | zero=>simp
 | succ n ih=>rw[List.range_succ,List.flatMap_append,List.length_append,ih];simp[hf,Nat.succ_mul]
theorem flat_get {α:Type}(f:Nat→List α)(c:Nat)(hf:∀t,(f t).length=c)(n t j:Nat)(ht:t<n)(hj:j<c):((List.range n).flatMap f)[t*c+j]?=(f t)[j]?:=by
 induction n with
 | zero=>omega
 | succ n ih=>
  rw[List.range_succ,List.flatMap_append]
  have hl:=flat_len f c hf n
  by_cases e:t=n
  ·subst e
   rw[List.getElem?_append_right (by omega),hl]
   simp[Nat.add_sub_cancel_left]
  ·have hlt:t*c+j<n*c:=by
    have:(t+1)*c≤n*c:=Nat.mul_le_mul_right c (by omega)
    rw[Nat.succ_mul] at this;omega
   rw[List.getElem?_append_left (by omega)]
   exact ih (by omega)
theorem rowA_len (G:Gl)(t:Nat):(rowA G t).toList.length=20:=rfl
theorem gcells_get (G:Gl){t j:Nat}(ht:t<G.n)(hj:j<20):(gcells G)[t*20+j]?=(rowA G t)[j]?:=by
 unfold gcells
 rw[flat_get _ 20 (rowA_len G) _ _ _ ht hj];simp
theorem GlAt.of_cells {W:World}{B g:Nat}{G:Gl}{cap:Nat}(hg:g<B)(h:∀j u,(gcells G)[j]?=some u→W.cell? ⟨g,j,none⟩=some u):GlAt B W (.slice (some ⟨g,0,none⟩) G.n cap) G:=by
 have cell:∀t j,t<G.n→j<20→W.cell? ⟨g,t*20+j,none⟩=(rowA G t)[j]?:=fun t j ht hj=>by
  have e:=gcells_get G ht hj
  cases hr:(rowA G t)[j]? with
  | none=>
   have:(rowA G t).size=20:=rfl
   rw[Array.getElem?_eq_none_iff] at hr;omega
  | some u=>exact h _ u (by rw[e,hr])
 refine⟨_,g,0,cap,rfl,fun _=>⟨rfl,hg⟩,fun k hk=>?_⟩
 have hf:k % 4=0∨k % 4=1∨k % 4=2∨k % 4=3:=by omega
 have hk4:4*(k / 4)+k % 4=k:=by omega
 refine⟨?_,fun i hi=>?_⟩
 ·have:=cell (k / 4) (k % 4*5) (by omega) (by omega)
  rw[show k / 4*20+k % 4*5=0+5*k by omega] at this
  rw[this]
  rcases hf with e | e | e | e<;>rw[e] at hk4 ⊢<;>simp[rowA]<;>(congr 1<;>omega)
 ·have:=cell (k / 4) (k % 4*5+1+i) (by omega) (by omega)
  rw[show k / 4*20+(k % 4*5+1+i)=0+5*k+1+i by omega] at this
  rw[this]
  have hi4:i=0∨i=1∨i=2∨i=3:=by omega
  rcases hf with e | e | e | e<;>rcases hi4 with rfl | rfl | rfl | rfl<;>rw[e] at hk4 ⊢<;>simp[rowA]<;>(congr 1<;>omega)
end
end Go.Proofs.Ytlckpgahijlmoaa
