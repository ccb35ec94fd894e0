/- The arguments of the laws on coverings, opened: gluings, coverings, lists of lists. No condition. -/
import Derived.Test.YtlckpgahijlmoaaQ15
import Derived.Deep.Matrix
import Derived.OpenShut
import Derived.SizedLaws
import Derived.Carry
import Derived.Lib.SmallJoins
set_option maxRecDepth 100000
set_option maxHeartbeats 8000000
namespace Go.Proofs.Ytlckpgahijlmoaa
section
open Go.RowKit Go.ChangeShapes Go.WideShapes Go.ChangeAt Go.Deep Go.Joins
theorem cells35:Try.prog.cellsOf 35=1:=by kernel_rfl
theorem cells3:Try.prog.cellsOf 3=1:=by kernel_rfl
theorem cells88:Try.prog.cellsOf 88=20:=by kernel_rfl
theorem cells87:Try.prog.cellsOf 87=5:=by kernel_rfl
theorem cells85:Try.prog.cellsOf 85=4:=by kernel_rfl
theorem cells24:Try.prog.cellsOf 24=1:=by kernel_rfl
theorem cells22:Try.prog.cellsOf 22=1:=by kernel_rfl
theorem bytes3:Try.prog.bytesOf 3=8:=by kernel_rfl
section
variable {H:Type}{enc:TypeId×Value→H}{W:World}
theorem add_none (b off i:Nat):(⟨b,off,none⟩:Addr).add i=⟨b,off+i,none⟩:=by
 unfold Addr.add
 split
 ·rename_i h;subst h;rfl
 ·rfl
theorem weights_mem_all {P:Program}{e:TypeId}{n:Nat}:∀{l:List (DataW H)} {d:DataW H},d∈l→n∈d.weights P e→n∈DataW.weightsAll P e l
 | [],_,h,_=>by simp at h
 | d0 :: r,d,h,hn=>by
  simp only[DataW.weightsAll,List.mem_append]
  rcases List.mem_cons.1 h with rfl | h
  ·exact .inl hn
  ·exact .inr (weights_mem_all h hn)
theorem drop_take {l:List Value}{a b i:Nat}(hi:i<b):((l.drop a).take b)[i]?=l[a+i]?:=by
 rw[List.getElem?_take];simp[hi]
theorem open_perm {cs:List Value}{fuel:Nat}{x:DataW H×List MemPlace}(h:DataW.trod enc Try.prog W 0 (fun _=>true) true fuel 85 cs=some x) :
  ∃p:Nat→Int,∀i,i<4→cs[i]?=some (.int .i64 (p i)):=by
 obtain⟨xs,m,rfl,rfl,hl,hn,hx⟩:=DataW.trod_array Try.underlying85 h
 rw[cells85] at hl
 have each:∀i,i<4→∃z:Int,cs[i]?=some (.int .i64 z):=fun i hi=>by
  have h1:=hx i hi
  rw[cells3,List.getElem?_eq_getElem (by omega)] at h1
  obtain⟨z,h2,_,_⟩:=DataW.trod_int Try.underlying3 h1
  refine⟨z,?_⟩
  have h3:=drop_take (l:=cs) (a:=i*1) (b:=1) (i:=0) (by omega)
  rw[h2] at h3
  simpa using h3.symm
 exact choose_lt each
theorem open_face {cs:List Value}{fuel:Nat}{x:DataW H×List MemPlace}(h:DataW.trod enc Try.prog W 0 (fun _=>true) true fuel 87 cs=some x) :
  ∃(t:Int) (p:Nat→Int),cs[0]?=some (.int .i64 t)∧∀i,i<4→cs[1+i]?=some (.int .i64 (p i)):=by
 obtain⟨xs,m,rfl,rfl,hl,hn,hx⟩:=DataW.trod_struct Try.underlying87 h
 have hn2:xs.length=2:=hn
 have h0:DataW.trod enc Try.prog W 0 (fun _=>true) true m 3 ((cs.drop 0).take (Try.prog.cellsOf 3))=xs[0]?:=hx 0 _ rfl
 have h1:DataW.trod enc Try.prog W 0 (fun _=>true) true m 85 ((cs.drop 1).take (Try.prog.cellsOf 85))=xs[1]?:=hx 1 _ rfl
 rw[List.getElem?_eq_getElem (by omega)] at h0 h1
 rw[cells3] at h0
 rw[cells85] at h1
 obtain⟨z,h2,_,_⟩:=DataW.trod_int Try.underlying3 h0
 obtain⟨p,h3⟩:=open_perm h1
 refine⟨z,p,?_,fun i hi=>?_⟩
 ·have h4:=drop_take (l:=cs) (a:=0) (b:=1) (i:=0) (by omega)
  rw[h2] at h4
  simpa using h4.symm
 ·have h4:=drop_take (l:=cs) (a:=1) (b:=4) (i:=i) hi
  rw[←h4];exact h3 i hi
theorem open_row {cs:List Value}{fuel:Nat}{x:DataW H×List MemPlace}(h:DataW.trod enc Try.prog W 0 (fun _=>true) true fuel 88 cs=some x) :
  ∃(t:Nat→Int) (p:Nat→Nat→Int),∀j,j<4→cs[5*j]?=some (.int .i64 (t j))∧∀i,i<4→cs[5*j+1+i]?=some (.int .i64 (p j i)):=by
 obtain⟨xs,m,rfl,rfl,hl,hn,hx⟩:=DataW.trod_array Try.underlying88 h
 have each:∀j,j<4→∃y:Int×(Nat→Int),cs[5*j]?=some (.int .i64 y.1)∧∀i,i<4→cs[5*j+1+i]?=some (.int .i64 (y.2 i)):=fun j hj=>by
  have h1:=hx j hj
  rw[cells87,List.getElem?_eq_getElem (by omega)] at h1
  obtain⟨t,p,h2,h3⟩:=open_face h1
  refine⟨(t,p),?_,fun i hi=>?_⟩
  ·rw[drop_take (by omega),show j*5+0=5*j by omega] at h2
   exact h2
  ·have h4:=h3 i hi
   rw[drop_take (by omega),show j*5+(1+i)=5*j+1+i by omega] at h4
   exact h4
 obtain⟨y,hy⟩:=choose_lt each
 exact⟨fun j=>(y j).1,fun j=>(y j).2,hy⟩
theorem open_gluing {v:Value}{d:DataW H}{p:List MemPlace}(h:DataW.Trod enc Try.prog W 0 (fun _=>true) true 24 v d p) :
  ∃u G,v.cells=#[u]∧GlAt W.heap.size W u G∧G.n≤maxLen:=by
 obtain⟨fuel,h⟩:=h
 obtain⟨xs,m,rfl,_,hl,hn,hx⟩:=DataW.trod_struct Try.underlying24 h
 have hn1:xs.length=1:=hn
 have h0:DataW.trod enc Try.prog W 0 (fun _=>true) true m 22 ((v.cells.toList.drop 0).take (Try.prog.cellsOf 22))=xs[0]?:=hx 0 _ rfl
 rw[cells24] at hl
 rw[List.getElem?_eq_getElem (by omega),cells22] at h0
 have e0:((v.cells.toList.drop 0).take 1)=v.cells.toList:=by
  rw[List.drop_zero,List.take_of_length_le (by rw[hl];exact Nat.le_refl _)]
 rw[e0] at h0
 rcases open_slice Try.underlying22 h0 with ⟨hc,_⟩ | ⟨a,len,cap,m,n,D,Pl,hc,_,hll,hm,hmm,_,hx⟩
 ·refine⟨_,⟨0,fun _=>0,fun _ _=>0⟩,by rw[←Array.toArray_toList (xs:=v.cells),hc],⟨none,0,0,0,rfl,fun h=>by simp at h,fun k hk=>by simp at hk⟩,Nat.zero_le _⟩
 ·simp only[if_true] at hmm
  rw[hmm] at hx
  rw[cells88] at hx
  have each:∀i,i<cap→∃y:(Nat→Int)×(Nat→Nat→Int),∀j,j<4→W.cell? ((a.add (i*20)).add (5*j))=some (.int .i64 (y.1 j))∧∀l,l<4→W.cell? ((a.add (i*20)).add (5*j+1+l))=some (.int .i64 (y.2 j l)):=fun i hi=>by
   obtain⟨cs',h1,h2⟩:=hx i hi
   obtain⟨t,p,h3⟩:=open_row h2
   obtain⟨_,hlen,h5⟩:=World.cells?_some h1
   refine⟨(t,p),fun j hj=>⟨?_,fun l hl=>?_⟩⟩
   ·rw[h5 _ (by omega)];exact (h3 j hj).1
   ·rw[h5 _ (by omega)];exact (h3 j hj).2 l hl
  obtain⟨y,hy⟩:=choose_lt each
  obtain⟨b,off,spot⟩:=a
  have hspot:0<len→spot=none:=fun hp=>by
   have:=((hy 0 (by omega)) 0 (by omega)).1
   simpa [Addr.add] using World.cell?_spot this
  refine⟨_,⟨len,fun k=>(y (k / 4)).1 (k % 4),fun k i=>(y (k / 4)).2 (k % 4) i⟩,by rw[←Array.toArray_toList (xs:=v.cells),hc],⟨some ⟨b,off,spot⟩,b,off,cap,rfl,fun hp=>?_,fun k hk=>?_⟩,Nat.le_trans hll hm⟩
  ·exact⟨by rw[hspot hp],by have:=za0 ((hy 0 (by simp at hp;omega)) 0 (by omega)).1;simpa [Addr.add] using this⟩
  ·simp only at hk
   have hs:=hspot (by omega)
   subst hs
   have h1:=(hy (k / 4) (by omega)) (k % 4) (by omega)
   rw[add_add] at h1
   refine⟨?_,fun i hi=>?_⟩
   ·have h2:=h1.1
    rw[add_none,show off+(k / 4*20+5*(k % 4))=off+5*k by omega] at h2
    exact h2
   ·have h2:=h1.2 i hi
    rw[add_add,add_none,show off+(k / 4*20+(5*(k % 4)+1+i))=off+5*k+1+i by omega] at h2
    exact h2
end
end
end Go.Proofs.Ytlckpgahijlmoaa
