/- The arguments of the laws on coverings, opened: lists with their capacities. No condition. -/
import Derived.Test.YtlckpgahijlmoaaQ53
import Derived.Test.YtlckpgahijlmoaaQ36
set_option maxRecDepth 100000
set_option maxHeartbeats 8000000
namespace Go.Proofs.Ytlckpgahijlmoaa
section
open Go.RowKit Go.ChangeShapes Go.WideShapes Go.ChangeAt Go.Deep Go.Joins
theorem bytes35:Try.prog.bytesOf 35=24:=by kernel_rfl
section
variable {H:Type}{enc:TypeId×Value→H}{W:World}
theorem open_listsC {cs:List Value}{fuel:Nat}{x:DataW H×List MemPlace}(h:DataW.trod enc Try.prog W 0 (fun _=>true) true fuel 26 cs=some x) :
  ∃v n len f,cs=[v]∧LLc W.heap.size W v n len f∧n≤maxLen∧((∀m∈x.1.weights Try.prog 26,m≤reachBytes)→n≤17592186044416∧∀k,k<n→len k≤17592186044416):=by
 rcases open_int_rows Try.underlying26 Try.underlying35 Try.underlying3 cells35 cells3 h with ⟨rfl,rfl⟩ | ⟨a,n,cap,A,L,C,Z,rfl,_,hl,hm,rfl,hx⟩
 ·exact⟨_,0,fun _=>0,fun _ _=>0,rfl,⟨none,0,0,0,rfl,fun h=>by omega,fun k hk=>by omega⟩,Nat.zero_le _,fun _=>⟨by omega,fun k hk=>by omega⟩⟩
 ·obtain⟨b,off,spot⟩:=a
  refine⟨_,n,L,fun k i=>(Z k).getD i 0,rfl,⟨some ⟨b,off,spot⟩,b,off,cap,rfl,fun hn=>?_,fun k hk=>?_⟩,Nat.le_trans hl hm,fun hw=>⟨?_,fun k hk=>?_⟩⟩
  ·have h0:=(hx 0 (by omega)).1
   have hs:spot=none:=by simpa [Addr.add] using World.cell?_spot h0
   exact⟨by rw[hs],by have:=za0 h0;simpa [Addr.add] using this⟩
  ·have hs:spot=none:=by simpa [Addr.add] using World.cell?_spot (hx 0 (by omega)).1
   subst hs
   obtain⟨h0,h1,h2,h3,h4,h5,h6⟩:=hx k (by omega)
   rw[add_none] at h0
   refine⟨A k,(A k).elim 0 (·.block),(A k).elim 0 (·.off),C k,h0,h1,fun hp=>?_,fun i hi=>?_⟩
   ·cases e:A k with
    | none=>have:=h5 e;omega
    | some a'=>
     have h7:=(h6 a' e).2 0 (by omega)
     obtain⟨rb,ro,rs⟩:=a'
     have hs:rs=none:=by simpa [Addr.add] using World.cell?_spot h7
     exact⟨by rw[hs];rfl,by have:=za0 h7;simpa [Addr.add] using this⟩
   ·cases e:A k with
    | none=>have:=h5 e;omega
    | some a'=>
     have h7:=(h6 a' e).2 i (by omega)
     have h8:=(h6 a' e).2 0 (by omega)
     obtain⟨rb,ro,rs⟩:=a'
     have hs:rs=none:=by simpa [Addr.add] using World.cell?_spot h8
     subst hs
     rw[add_none] at h7
     exact h7
  ·have h8:=hw (((List.range n).map fun r=>intRow (H:=H) IntKind.i64 (A r) (L r) (Z r)).length*Try.prog.bytesOf 35+((List.range (cap-n)).map fun j=>intRow (H:=H) IntKind.i64 (A (n+j)) (L (n+j)) (Z (n+j))).length*Try.prog.bytesOf 35) (by
    simp only[DataW.weights,Try.underlying26,←Nat.add_mul]
    exact List.mem_cons_self)
   rw[bytes35] at h8
   simp only[List.length_map,List.length_range,reachBytes] at h8
   omega
  ·obtain⟨_,h1,_,h3,_,h5,_⟩:=hx k (by omega)
   cases e:A k with
   | none=>have:=h5 e;omega
   | some a'=>
    have hin:(C k)*8∈(intRow (H:=H) IntKind.i64 (A k) (L k) (Z k)).weights Try.prog 35:=by
     simp only[intRow,e,DataW.weights,Try.underlying35,bytes3]
     refine List.mem_cons.2 (.inl ?_)
     simp only[lits,List.length_map,List.length_take,List.length_drop,h3]
     omega
    have h8:=hw (C k*8) (by
     simp only[DataW.weights,Try.underlying26]
     exact List.mem_cons_of_mem _ (List.mem_append_left _ (weights_mem_all (List.mem_map.2 ⟨k,List.mem_range.2 hk,rfl⟩) hin)))
    simp only[reachBytes] at h8
    omega
end
end
end Go.Proofs.Ytlckpgahijlmoaa
