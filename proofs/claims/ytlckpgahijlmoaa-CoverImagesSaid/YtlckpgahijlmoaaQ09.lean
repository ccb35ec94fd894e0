/- Maps keyed by pairs of numbers, and the laws at the operations. No condition. -/
import Derived.Test.YtlckpgahijlmoaaQ04
import Derived.Maps.Own
import Derived.DeepKeys4
import Derived.WideKeyPair
import Derived.OwnWalk
set_option maxRecDepth 100000
set_option maxHeartbeats 8000000
namespace Go.Proofs.Ytlckpgahijlmoaa
section
open Go.RowKit Go.MapKept Go.Maps
theorem und182:Try.prog.underlying 182=some (.map 3 4):=by kernel_rfl
open Go.ChangeMaps (setBlock modify_eq_set)
structure MapIs {α β:Type}(W:World)(k:TypeId)(ok:α→Prop)(κ:α→Value)(ν:β→Value)(b n:Nat)(D:α→Option β):Prop where
 ex:∃es clock,W.heap[b]?=some (.map es clock)∧es.size=n∧Stamped es clock∧(∀x∈es.toList,∃a c,x.key=κ a∧x.val=ν c∧D a=some c∧ok a)∧∀a c,D a=some c→ok a∧∃x∈es.toList,x.key=κ a∧x.val=ν c
structure Codes {α:Type}(k:TypeId)(ok:α→Prop)(κ:α→Value):Prop where
 K:Keyed Try.prog k
 key:∀a,ok a→∃l,keyOf Try.prog k (κ a)=some l
 inj:∀a a',ok a→ok a'→κ a=κ a'→a=a'
section
variable {α β:Type}{W W':World}{k t e:TypeId}{ok:α→Prop}{κ:α→Value}{ν:β→Value}{b n:Nat}{D:α→Option β}
theorem MapIs.lt (h:MapIs W k ok κ ν b n D):b<W.heap.size:=by
 obtain⟨es,clock,hb,_⟩:=h.ex
 exact (Array.getElem?_eq_some_iff.1 hb).1
theorem MapIs.of_block (h:MapIs W k ok κ ν b n D)(e:W'.heap[b]?=W.heap[b]?):MapIs W' k ok κ ν b n D:=by
 obtain⟨es,clock,hb,r⟩:=h.ex
 exact⟨es,clock,e.trans hb,r⟩
theorem MapIs.kept {row:Option Nat}(h:MapIs W k ok κ ν b n D)(hg:W.grownBy W' row)(hne:some b≠row):MapIs W' k ok κ ν b n D:=h.of_block (hg.block b h.lt hne)
theorem MapIs.made (w:World):MapIs (w.alloc (.map #[] 0)) k ok κ ν w.heap.size 0 (fun _=>none):=
 ⟨#[],0,(MapKept.heap_alloc w _).1,rfl,stamped_empty 0,by simp,by simp⟩
theorem MapIs.congr {D':α→Option β}(h:MapIs W k ok κ ν b n D)(e:∀a,D a=D' a):MapIs W k ok κ ν b n D':=by
 have:D=D':=funext e
 rw[←this];exact h
theorem MapIs.look (h:MapIs W k ok κ ν b n D)(C:Codes k ok κ)(ht:Try.prog.underlying t=some (.map k e)){z:Value}(hz:(zeroValue e).run Try.prog W=.ok z W)(c:Bool)(a:α)(ha:ok a) :
  (Instr.lookup t (.map (some b)) (κ a) c).run Try.prog W=.ok (if c then .tuple #[(D a).elim z ν,.bool (D a).isSome] else (D a).elim z ν) W:=by
 obtain⟨es,clock,hb,hn,hst,h1,h2⟩:=h.ex
 obtain⟨l,hl⟩:=C.key a ha
 have hkeys:∀x∈es.toList,∃l,keyOf Try.prog k x.key=some l:=fun x hx=>by
  obtain⟨a,c,e1,_,_,e4⟩:=h1 x hx
  rw[e1];exact C.key a e4
 rcases C.K.find W hl es.toList hkeys with ⟨r1,r2⟩ | ⟨j,e0,r1,r2,r3⟩
 ·have hD:D a=none:=by
   cases hq:D a with
   | none=>rfl
   | some v=>
    obtain⟨_,x,hx,e1,_⟩:=h2 a v hq
    exact absurd e1 (r2 x hx)
  simp[Instr.lookup,run_underlying ht,MapKept.run_getObj_map hb,C.K.check W _ hl,r1,hz,Result.andThen,hD]
 ·have hm0:e0∈es.toList:=List.mem_of_getElem? r2
  obtain⟨a',c',e1,e2,e3,e4⟩:=h1 e0 hm0
  have:a'=a:=C.inj _ _ e4 ha (e1.symm.trans r3)
  subst this
  simp[Instr.lookup,run_underlying ht,MapKept.run_getObj_map hb,C.K.check W _ hl,r1,Result.andThen,e3,e2]
variable [DecidableEq α]
theorem MapIs.update (h:MapIs W k ok κ ν b n D)(C:Codes k ok κ)(ht:Try.prog.underlying t=some (.map k e))(a:α)(ha:ok a)(v:β) :
  ∃W',(Instr.mapUpdate t (.map (some b)) (κ a) (ν v)).run Try.prog W=.ok () W'∧MapIs W' k ok κ ν b (if (D a).isSome then n else n+1) (fun x=>if x=a then some v else D x)∧W.grownBy W' (some b)∧W'.heap.size=W.heap.size:=by
 obtain⟨es,clock,hb,hn,hst,h1,h2⟩:=h.ex
 obtain⟨l,hl⟩:=C.key a ha
 have hkeys:∀x∈es.toList,∃l,keyOf Try.prog k x.key=some l:=fun x hx=>by
  obtain⟨a,c,e1,_,_,e4⟩:=h1 x hx
  rw[e1];exact C.key a e4
 have gr:∀o,W.grownBy (setBlock W b o) (some b):=fun o=>⟨rfl,rfl,rfl,by simp[setBlock],fun i _ hi=>Go.ChangeMaps.heap_setBlock_other hb _ (fun e=>hi (by rw[e]))⟩
 rcases C.K.find W hl es.toList hkeys with ⟨r1,r2⟩ | ⟨j,e0,r1,r2,r3⟩
 ·have hD:D a=none:=by
   cases hq:D a with
   | none=>rfl
   | some v=>
    obtain⟨_,x,hx,e1,_⟩:=h2 a v hq
    exact absurd e1 (r2 x hx)
  refine⟨setBlock W b (.map (es.push ⟨κ a,ν v,clock⟩) (clock+1)),?_,⟨es.push ⟨κ a,ν v,clock⟩,clock+1,Go.ChangeMaps.heap_setBlock_same hb _,by simp[hn,hD],stamped_push hst r2,?_,?_⟩,gr _,by simp[setBlock]⟩
  ·simp[Instr.mapUpdate,run_underlying ht,MapKept.run_getObj_map hb,C.K.check W false hl,r1,MapKept.run_setObj_map _ hb,Result.andThen,setBlock]
  ·intro x hx
   simp only[Array.toList_push,List.mem_append,List.mem_singleton] at hx
   rcases hx with hx | rfl
   ·obtain⟨a',c',e1,e2,e3,e4⟩:=h1 x hx
    refine⟨a',c',e1,e2,?_,e4⟩
    rw[if_neg (fun q=>?_)];exact e3
    subst q;exact r2 x hx e1
   ·exact⟨a,v,rfl,rfl,by simp,ha⟩
  ·intro a' c' hq
   simp only[Array.toList_push,List.mem_append,List.mem_singleton]
   by_cases q:a'=a
   ·subst q
    simp at hq
    subst hq
    exact⟨ha,_,.inr rfl,rfl,rfl⟩
   ·simp[q] at hq
    obtain⟨e0,x,hx,e1,e2⟩:=h2 a' c' hq
    exact⟨e0,x,.inl hx,e1,e2⟩
 ·have hj:es[j]?=some e0:=by simpa using r2
  have hm0:e0∈es.toList:=List.mem_of_getElem? r2
  have hkeyf:∀e',es[j]?=some e'→({ e' with key:=κ a,val:=ν v }:MapEntry).key=e'.key:=fun e' he'=>by rw[hj] at he';cases he';exact r3.symm
  have hlist:(es.modify j (fun e'=>{ e' with key:=κ a,val:=ν v })).toList=es.toList.set j { e0 with key:=κ a,val:=ν v }:=by rw[Array.toList_modify,modify_eq_set _ _ _ _ r2]
  have hpw:=((stamped_iff es clock).1 hst).2.2
  have hDs:(D a).isSome=true:=by
   obtain⟨a',c',e1,e2,e3,e4⟩:=h1 e0 hm0
   have:a'=a:=C.inj _ _ e4 ha (e1.symm.trans r3)
   subst this
   rw[e3];rfl
  refine⟨setBlock W b (.map (es.modify j (fun e'=>{ e' with key:=κ a,val:=ν v })) clock),?_,⟨es.modify j (fun e'=>{ e' with key:=κ a,val:=ν v }),clock,Go.ChangeMaps.heap_setBlock_same hb _,by simp[hn,hDs],stamped_modify hst _ _ (fun _ _=>rfl) (fun e' _ he'=>hkeyf e' he'),?_,?_⟩,gr _,by simp[setBlock]⟩
  ·simp[Instr.mapUpdate,run_underlying ht,MapKept.run_getObj_map hb,C.K.check W false hl,r1,hj,r3,C.K.stays W hl,MapKept.run_setObj_map _ hb,Result.andThen,setBlock]
  ·intro x hx
   rw[hlist] at hx
   obtain⟨i,hi,ex⟩:=List.getElem_of_mem hx
   rw[List.getElem_set] at ex
   split at ex
   ·subst ex;exact⟨a,v,rfl,rfl,by simp,ha⟩
   ·rename_i hne
    have hi':i<es.toList.length:=by simpa using hi
    have hxm:x∈es.toList:=ex▸List.getElem_mem hi'
    obtain⟨a',c',e1,e2,e3,e4⟩:=h1 x hxm
    refine⟨a',c',e1,e2,?_,e4⟩
    rw[if_neg (fun q=>?_)];exact e3
    subst q
    have hjl:j<es.toList.length:=(List.getElem?_eq_some_iff.1 r2).1
    have he0:es.toList[j]=e0:=(List.getElem?_eq_some_iff.1 r2).2
    rcases Nat.lt_trichotomy i j with o | o | o
    ·have:=List.pairwise_iff_getElem.1 hpw i j hi' hjl o
     rw[ex,he0,e1,r3] at this;exact this rfl
    ·exact hne o.symm
    ·have:=List.pairwise_iff_getElem.1 hpw j i hjl hi' o
     rw[ex,he0,e1,r3] at this;exact this rfl
  ·intro a' c' hq
   rw[hlist]
   have hjl:j<es.toList.length:=(List.getElem?_eq_some_iff.1 r2).1
   by_cases q:a'=a
   ·subst q
    simp at hq
    subst hq
    exact⟨ha,_,List.mem_iff_getElem.2 ⟨j,by simpa using hjl,by simp;rfl⟩,rfl,rfl⟩
   ·simp[q] at hq
    obtain⟨e9,x,hx,e1,e2⟩:=h2 a' c' hq
    obtain⟨i,hi,ex⟩:=List.getElem_of_mem hx
    refine⟨e9,x,List.mem_iff_getElem.2 ⟨i,by simpa using hi,?_⟩,e1,e2⟩
    rw[List.getElem_set,if_neg,ex]
    intro hji
    subst hji
    have he0:es.toList[j]=e0:=(List.getElem?_eq_some_iff.1 r2).2
    rw[ex] at he0
    rw[he0] at e1
    exact q (C.inj _ _ e9 ha (e1.symm.trans r3))
end
theorem codes_int:Codes 3 (fun a:Nat=>a<9223372036854775808) (fun a:Nat=>Value.int .i64 (a:Int)):=
 ⟨int_keyed Try.underlying3,fun a ha=>⟨_,keyOf_int_mk Try.underlying3 (by simp[Lit.wf,IntKind.min,IntKind.max];simp[IntKind.signed,IntKind.bits];omega)⟩,fun a a' _ _ h=>by simp at h;omega⟩
end
section
open Go.RowKit Go.MapKept Go.Maps
theorem laidOut:laidOutB Try.prog=true:=by kernel_rfl
theorem und207:Try.prog.underlying 207=some (.array 2 3):=by kernel_rfl
theorem und83:Try.prog.underlying 83=some (.array 2 3):=by kernel_rfl
theorem law207:Keyed Try.prog 207:=Keyed.of_law (deep_law_laid laidOut (m:=2) (by omega) (of_decide_eq_true (by kernel_rfl)) (by kernel_rfl) (by rw[und207]))
theorem law83:Keyed Try.prog 83:=Keyed.of_law (deep_law_laid laidOut (m:=2) (by omega) (of_decide_eq_true (by kernel_rfl)) (by kernel_rfl) (by rw[und83]))
theorem arr207:WideMaps.ArrKey Try.prog 207 3 2:=⟨und207,by kernel_rfl,by kernel_rfl,by kernel_rfl⟩
theorem arr83:WideMaps.ArrKey Try.prog 83 3 2:=⟨und83,by kernel_rfl,by kernel_rfl,by kernel_rfl⟩
theorem siz:∃m,Try.prog.types.size=m+1:=⟨230,by kernel_rfl⟩
def kp (p:Nat×Nat):Value:=.agg #[.int .i64 (p.1:Int),.int .i64 (p.2:Int)]
def okp (p:Nat×Nat):Prop:=p.1<9223372036854775808∧p.2<9223372036854775808
theorem wf_nat {a:Nat}(h:a<9223372036854775808):(Lit.int .i64 (a:Int)).wf=true:=by
 simp[Lit.wf,IntKind.min,IntKind.max];simp[IntKind.signed,IntKind.bits];omega
theorem kp_inj (a a':Nat×Nat)(h:kp a=kp a'):a=a':=by
 simp only[kp,Value.agg.injEq] at h
 have h0:=congrArg (fun (x:Array Value)=>x[0]?) h
 have h1:=congrArg (fun (x:Array Value)=>x[1]?) h
 simp at h0 h1
 exact Prod.ext (by omega) (by omega)
theorem codes207:Codes 207 okp kp:=⟨law207,fun _a ha=>⟨_,WideMaps.keyOf_pair arr207 Try.underlying3 siz (wf_nat ha.1) (wf_nat ha.2)⟩,fun a a' _ _ h=>kp_inj a a' h⟩
theorem codes83:Codes 83 okp kp:=⟨law83,fun _a ha=>⟨_,WideMaps.keyOf_pair arr83 Try.underlying3 siz (wf_nat ha.1) (wf_nat ha.2)⟩,fun a a' _ _ h=>kp_inj a a' h⟩
def vi (n:Nat):Value:=.int .i64 (n:Int)
section
variable {α β:Type}[DecidableEq α]{W:World}{k t e:TypeId}{ok:α→Prop}{κ:α→Value}{ν:β→Value}{b n:Nat}{D:α→Option β}
theorem zg3 {ops:Array Oper}{rest:List Oper}{o:Oper}{act:Act}{Q:Exit→Act→World→Prop}(hg:o.guard=none)(t:TypeId)(m x v:Operand)(hop:o.op=Op.mapUpdate t m x v)
  (C:Codes k ok κ) (ht:Try.prog.underlying t=some (.map k e)) (h:MapIs W k ok κ ν b n D) (a:α) (ha:ok a) (c:β) (hm:act.eval m=.map (some b)) (hx:act.eval x=κ a) (hv:act.eval v=ν c)
  (hK:∀W',MapIs W' k ok κ ν b (if (D a).isSome then n else n+1) (fun x=>if x=a then some c else D x)→W.grownBy W' (some b)→W'.heap.size=W.heap.size→wpList Try.prog ops Q rest (act.put o.dst undef) W') :
  wpList Try.prog ops Q (o :: rest) act W:=by
 refine wpList_plain hg fun K' hK'=>?_
 obtain⟨W',hrun,r1,r2,r3⟩:=h.update C ht a ha c
 unfold Oper.wp
 simp[execOp,hop,hm,hx,hv,hrun,Result.andThen]
 exact hK' _ _ (hK W' r1 r2 r3)
end
end
end Go.Proofs.Ytlckpgahijlmoaa
