/- A range over a map under way, over MapIs. No condition. -/
import Derived.Test.YtlckpgahijlmoaaQ09
import Derived.Maps.RangeWalk
set_option maxRecDepth 100000
set_option maxHeartbeats 8000000
namespace Go.Proofs.Ytlckpgahijlmoaa
section
open Go.RowKit Go.MapKept Go.Maps
open Go.ChangeMaps (setBlock)
def MapR {α β:Type}(W:World)(ok:α→Prop)(κ:α→Value)(ν:β→Value)(b r n:Nat)(D:α→Option β)(left:α→Bool)(cnt:Nat):Prop:=
 ∃es clock since seen c0,W.heap[b]?=some (.map es clock)∧es.size=n∧Stamped es clock∧(∀x∈es.toList,∃a c,x.key=κ a∧x.val=ν c∧D a=some c∧ok a∧left a=!seen.contains x.born)∧(∀a c,D a=some c→ok a∧∃x∈es.toList,x.key=κ a∧x.val=ν c) ∧
  W.heap[r]?=some (.mapIter (some b) since seen c0)∧(∀x∈es.toList,x.born<since)∧(leftOf es seen).size=cnt∧since≤c0∧since≤clock∧(∀a,left a=true→(D a).isSome=true)
section
variable {α β:Type}{W:World}{k t e:TypeId}{ok:α→Prop}{κ:α→Value}{ν:β→Value}{b r n:Nat}{D:α→Option β}{left:α→Bool}{cnt:Nat}
theorem MapR.ne (h:MapR W ok κ ν b r n D left cnt):r≠b:=by
 obtain⟨es,clock,since,seen,c0,hb,_,_,_,_,hr,_⟩:=h
 intro e
 rw[e,hb] at hr
 cases hr
theorem MapR.ltb (h:MapR W ok κ ν b r n D left cnt):b<W.heap.size:=by
 obtain⟨es,clock,since,seen,c0,hb,_⟩:=h
 exact (Array.getElem?_eq_some_iff.1 hb).1
theorem MapR.ltr (h:MapR W ok κ ν b r n D left cnt):r<W.heap.size:=by
 obtain⟨es,clock,since,seen,c0,_,_,_,_,_,hr,_⟩:=h
 exact (Array.getElem?_eq_some_iff.1 hr).1
theorem MapR.kept {W':World}{row:Option Nat}(h:MapR W ok κ ν b r n D left cnt)(hg:W.grownBy W' row)(hb':some b≠row)(hr':some r≠row):MapR W' ok κ ν b r n D left cnt:=by
 have h1:=h.ltb
 have h2:=h.ltr
 obtain⟨es,clock,since,seen,c0,hb,q1,q2,q3,q4,hr,rest⟩:=h
 exact⟨es,clock,since,seen,c0,(hg.block b h1 hb').trans hb,q1,q2,q3,q4,(hg.block r h2 hr').trans hr,rest⟩
theorem MapIs.range (h:MapIs W k ok κ ν b n D)(ht:Try.prog.underlying t=some (.map k e)) :
  ∃W',(Instr.range t (.map (some b))).run Try.prog W=.ok (.pointer (some ⟨W.heap.size,0,none⟩)) W'∧(∃cnt,MapR W' ok κ ν b W.heap.size n D (fun a=>(D a).isSome) cnt)∧W.grownBy W' none∧W'.heap.size=W.heap.size+1:=by
 have hlt:=h.lt
 obtain⟨es,clock,hb,hs,hst,h1,h2⟩:=h.ex
 refine⟨_,run_range_map W t k e b es clock ht hb,⟨_,es,clock,clock,#[],clock,((MapKept.heap_alloc W _).2 b hlt).trans hb,hs,hst,fun x hx=>?_,h2,(MapKept.heap_alloc W _).1,hst.1,rfl,Nat.le_refl _,Nat.le_refl _,fun a ha=>ha⟩,World.grownBy_alloc W _ none,by simp⟩
 obtain⟨a,c,e1,e2,e3,e4⟩:=h1 x hx
 exact⟨a,c,e1,e2,e3,e4,by simp[e3]⟩
variable [DecidableEq α]
theorem MapR.next (h:MapR W ok κ ν b r n D left cnt)(hinj:∀a a',ok a→ok a'→κ a=κ a'→a=a')(ty:TypeId) :
  ((∀a,left a=false)∧(Instr.next (.pointer (some ⟨r,0,none⟩)) false ty).run Try.prog W=.ok (.tuple #[.bool false]) W) ∨
  ∃a c W' cnt',ok a∧left a=true∧D a=some c∧(Instr.next (.pointer (some ⟨r,0,none⟩)) false ty).run Try.prog W=.ok (.tuple #[.bool true,κ a,ν c]) W' ∧
   MapR W' ok κ ν b r n D (fun x=>left x && !decide (x=a)) cnt'∧cnt'<cnt∧W.grownBy W' (some r)∧W'.heap.size=W.heap.size∧(Instr.entry (.pointer (some ⟨r,0,none⟩))).run Try.prog W'=.ok (.tuple #[κ a,ν c]) W':=by
 have hne:=h.ne
 obtain⟨es,clock,since,seen,c0,hb,hs,hst,h1,h2,hr,hold,rfl,hsc,hsk,hld⟩:=h
 rcases run_next_at (P:=Try.prog) W ty r b since c0 seen es clock hr hb hold hsc with ⟨h0,hrun⟩ | ⟨e,he,w1,hal,hrun⟩
 ·refine Or.inl ⟨fun a=>?_,hrun⟩
  cases hk:left a
  ·rfl
  ·obtain⟨c,hc⟩:=Option.isSome_iff_exists.1 (hld a hk)
   obtain⟨oka,x,hx,e1,e2⟩:=h2 a c hc
   obtain⟨a',c',f1,f2,f3,f4,f5⟩:=h1 x hx
   obtain rfl:a'=a:=hinj _ _ f4 oka (f1.symm.trans e1)
   rw[f5,all_seen es seen h0 x hx] at hk
   cases hk
 ·obtain⟨hem,hes⟩:=mem_left he
  obtain⟨a,c,e1,e2,e3,e4,e5⟩:=h1 e hem
  have hr1:w1.heap[r]?=some (.mapIter (some b) since seen c0):=by rcases hal with rfl | rfl<;>exact hr
  have hb1:w1.heap[b]?=some (.map es clock):=by rcases hal with rfl | rfl<;>exact hb
  have hset:=heap_set (o':=.mapIter (some b) since (seen.push e.born) clock) hr1
  have hb':(setBlock w1 r (.mapIter (some b) since (seen.push e.born) clock)).heap[b]?=some (.map es clock):=(hset.2 b (fun e1=>hne e1.symm)).trans hb1
  have hpw:=((stamped_iff es clock).1 hst)
  rw[e1,e2] at hrun
  have hen:=run_entry_at (P:=Try.prog) (setBlock w1 r (.mapIter (some b) since (seen.push e.born) clock)) r b since seen es clock e hset.1 hb' hem hpw.2.1
  rw[e1,e2] at hen
  refine Or.inr ⟨a,c,_,_,e4,by rw[e5,hes];rfl,e3,hrun,
   ⟨es,clock,since,seen.push e.born,clock,hb',hs,hst,fun x hx=>?_,h2,hset.1,hold,rfl,hsk,hsk,fun x hx=>hld x (by simp at hx;exact hx.1)⟩,left_shrinks es seen e he,?_,?_,hen⟩
  ·obtain⟨a',c',f1,f2,f3,f4,f5⟩:=h1 x hx
   refine⟨a',c',f1,f2,f3,f4,?_⟩
   simp only
   rw[f5,contains_push]
   by_cases q:x.born=e.born
   ·obtain rfl:=born_inj hpw.2.1 hx hem q
    obtain rfl:a'=a:=hinj _ _ f4 e4 (f1.symm.trans e1)
    simp
   ·have q2:a'≠a:=fun q2=>q (by subst q2;exact congrArg MapEntry.born (entry_eq_of_key hpw.2.2 hx hem (f1.trans e1.symm)))
    have q3:(x.born==e.born)=false:=by simpa using q
    rw[q3];simp[q2]
  ·rcases hal with rfl | rfl<;>exact⟨rfl,rfl,rfl,by simp[setBlock],fun i _ hi=>hset.2 i (fun e1=>hi (by rw[e1]))⟩
  ·rcases hal with rfl | rfl<;>simp[setBlock]
end
section
variable {α β:Type}{W:World}{k t e:TypeId}{ok:α→Prop}{κ:α→Value}{ν:β→Value}{b r n:Nat}{D:α→Option β}{left:α→Bool}{cnt:Nat}
theorem wpList_range {ops:Array Oper}{rest:List Oper}{o:Oper}{act:Act}{Q:Exit→Act→World→Prop}(hg:o.guard=none)(t:TypeId)(m:Operand)(hop:o.op=Op.range t m)(ht:Try.prog.underlying t=some (.map k e))
  (h:MapIs W k ok κ ν b n D) (hm:act.eval m=.map (some b))
  (hK:∀W' cnt,MapR W' ok κ ν b W.heap.size n D (fun a=>(D a).isSome) cnt→W.grownBy W' none→W'.heap.size=W.heap.size+1→wpList Try.prog ops Q rest (act.put o.dst (.pointer (some ⟨W.heap.size,0,none⟩))) W') :
  wpList Try.prog ops Q (o :: rest) act W:=by
 refine wpList_plain hg fun K' hK'=>?_
 obtain⟨W',hrun,⟨cnt,r1⟩,r2,r3⟩:=h.range ht
 unfold Oper.wp
 simp[execOp,hop,hm,hrun,Result.andThen]
 exact hK' _ _ (hK W' cnt r1 r2 r3)
variable [DecidableEq α]
theorem wpList_next {ops:Array Oper}{rest:List Oper}{o:Oper}{act:Act}{Q:Exit→Act→World→Prop}(hg:o.guard=none)(it:Operand)(hop:o.op=Op.next it false)
  (h:MapR W ok κ ν b r n D left cnt) (hinj:∀a a',ok a→ok a'→κ a=κ a'→a=a') (hit:act.eval it=.pointer (some ⟨r,0,none⟩))
  (hDone:(∀a,left a=false)→wpList Try.prog ops Q rest (act.put o.dst (.tuple #[.bool false])) W)
  (hMore:∀a c W' cnt',ok a→left a=true→D a=some c→MapR W' ok κ ν b r n D (fun x=>left x && !decide (x=a)) cnt'→cnt'<cnt→W.grownBy W' (some r)→W'.heap.size=W.heap.size→(Instr.entry (.pointer (some ⟨r,0,none⟩))).run Try.prog W'=.ok (.tuple #[κ a,ν c]) W'→wpList Try.prog ops Q rest (act.put o.dst (.tuple #[.bool true,κ a,ν c])) W') :
  wpList Try.prog ops Q (o :: rest) act W:=by
 refine wpList_plain hg fun K' hK'=>?_
 unfold Oper.wp
 rcases h.next hinj o.type with ⟨hl,hrun⟩ | ⟨a,c,W',cnt',q1,q2,q3,hrun,q4,q5,q6,q7,q8⟩
 ·simp[execOp,hop,hit,hrun,Result.andThen]
  exact hK' _ _ (hDone hl)
 ·simp[execOp,hop,hit,hrun,Result.andThen]
  exact hK' _ _ (hMore a c W' cnt' q1 q2 q3 q4 q5 q6 q7 q8)
end
end
end Go.Proofs.Ytlckpgahijlmoaa
