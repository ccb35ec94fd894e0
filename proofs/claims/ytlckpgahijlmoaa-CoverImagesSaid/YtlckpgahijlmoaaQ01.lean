/- Laws on reading parts of arrays and structs held by value, used by all walks of this seat. No condition. -/
import Derived.Test.YtlckpgahijlmoaaProg
import Derived.WalkKit
import Derived.Deep.LoopGhost
import Derived.Deep.MidRow
import Derived.Deep.WholeRow
import Derived.Deep.QuietTactic
import Derived.BigQuiet
import Derived.WalkLawsBesides
import Derived.WalkSpells
import Derived.TacticsIn
set_option maxRecDepth 100000
set_option maxHeartbeats 8000000
namespace Go.Proofs.Ytlckpgahijlmoaa
section
open Go.RowKit
section
variable {P:Program}
theorem run_isAgg {e:TypeId}{d:TypeDesc}(hu:P.underlying e=some d)(w:World):(isAgg e).run P w=.ok d.isRow w:=by
 unfold isAgg
 rw[Sem.run_bind,run_underlying hu w]
 cases d<;>simp_all [TypeDesc.isRow]
theorem run_sizeOf' {e:TypeId}{s:Nat}(hi:(P.info? e).map (·.size)=some s)(w:World):(sizeOf e).run P w=.ok s w:=by
 cases hq:P.info? e with
 | none=>simp[hq] at hi
 | some i=>
  have hs:i.size=s:=by simpa [hq] using hi
  simp[sizeOf,typeInfo,hq,hs]
theorem run_part_row {e:TypeId}{d:TypeDesc}{s:Nat}(hu:P.underlying e=some d)(hd:d.isRow=true)(hi:(P.info? e).map (·.size)=some s)(cs:Array Value)(o:Nat)(w:World) :
  (part e cs o).run P w=.ok (.agg (cs.extract o (o+s))) w:=by
 unfold part
 simp only[Sem.run_bind,run_isAgg hu,hd,run_sizeOf' hi,Result.andThen,if_true,Sem.run_pure]
theorem run_part_cell {e:TypeId}{d:TypeDesc}(hu:P.underlying e=some d)(hd:d.isRow=false)(cs:Array Value)(o:Nat)(v:Value)(hv:cs[o]?=some v)(w:World) :
  (part e cs o).run P w=.ok v w:=by
 unfold part
 simp[Sem.run_bind,run_isAgg hu,hd,Result.andThen,hv]
theorem run_index_row {t e:TypeId}{n s:Nat}{d:TypeDesc}(ht:P.underlying t=some (.array n e))(hu:P.underlying e=some d)(hd:d.isRow=true)(hi:(P.info? e).map (·.size)=some s)
  (cs:Array Value) (k:IntKind) (i:Nat) (h:i<n) (w:World):(Instr.index t (.agg cs) (.int k (i:Int))).run P w=.ok (.agg (cs.extract (i*s) (i*s+s))) w:=by
 have h1:(0:Int)≤(i:Int)∧(i:Int)<(n:Int):=by omega
 have h0:(asIntOf (.int k (i:Int))).run P w=.ok (k,(i:Int)) w:=by simp[asIntOf]
 unfold Instr.index
 simp only[Sem.run_bind,h0,run_underlying ht w,Result.andThen,if_pos h1,run_sizeOf' hi,Int.toNat_natCast,run_part_row hu hd hi]
theorem run_index_cell {t e:TypeId}{n:Nat}{d:TypeDesc}(ht:P.underlying t=some (.array n e))(hu:P.underlying e=some d)(hd:d.isRow=false)(hi:(P.info? e).map (·.size)=some 1)
  (cs:Array Value) (k:IntKind) (i:Nat) (h:i<n) (v:Value) (hv:cs[i]?=some v) (w:World):(Instr.index t (.agg cs) (.int k (i:Int))).run P w=.ok v w:=by
 have h1:(0:Int)≤(i:Int)∧(i:Int)<(n:Int):=by omega
 have h0:(asIntOf (.int k (i:Int))).run P w=.ok (k,(i:Int)) w:=by simp[asIntOf]
 unfold Instr.index
 simp only[Sem.run_bind,h0,run_underlying ht w,Result.andThen,if_pos h1,run_sizeOf' hi,Int.toNat_natCast,Nat.mul_one,run_part_cell hu hd cs i v hv]
end
theorem wpListIn_load_row {F:Fence}{n:Nat}{P:Program}{ops:Array Oper}{rest:List Oper}{op:Oper}{a:Act}{w:World}{Q:Exit→Act→World→Prop}(hgd:op.guard=none)(ty:TypeId)(x:Operand)(ho:op.op=.load ty x)
  (b o:Nat) (hx:a.eval x=.pointer (some ⟨b,o,none⟩)) (cs:Array Value) (d:TypeDesc) (hc:w.rangeAt b o cs.toList)
  (hu:P.underlying ty=some d) (hd:d.isRow=true) (hi:(P.info? ty).map (·.size)=some cs.size)
  (h:wpListIn F n P ops Q rest (a.put op.dst (.agg cs)) w):wpListIn F n P ops Q (op :: rest) a w:=by
 refine wpListIn_plain hgd fun K hK=>?_
 have hsem:op.semAt F.round a.eval=execOp a.eval op:=Oper.semAt_eq _ _ _ (fun c e=>by rw[ho] at e;cases e)
 refine⟨fun f hf=>?_,?_⟩
 ·simp only[Oper.about,ho] at hf
  cases hf
 ·rw[hsem]
  unfold execOp
  have hl:=run_loadVar_mid (P:=P) w b o ty cs.toList d hc hu hd (by simpa using hi)
  simp only[ho,hx,Instr.loadAt,Instr.sureAddr,Sem.run_bind,Sem.run_pure,Result.andThen_ok,hl,Array.toArray_toList]
  exact hK _ _ h
theorem zb8 {P:Program}{ops:Array Oper}{rest:List Oper}{op:Oper}{a:Act}{w:World}{Q:Exit→Act→World→Prop}(hgd:op.guard=none)(ty:TypeId)(x:Operand)(ho:op.op=.load ty x)
  (b o:Nat) (hx:a.eval x=.pointer (some ⟨b,o,none⟩)) (cs:Array Value) (d:TypeDesc) (hc:w.rangeAt b o cs.toList)
  (hu:P.underlying ty=some d) (hd:d.isRow=true) (hi:(P.info? ty).map (·.size)=some cs.size)
  (h:wpList P ops Q rest (a.put op.dst (.agg cs)) w):wpList P ops Q (op :: rest) a w:=
 wpList_load_mid hgd ty x ho b o hx cs.toList d hc hu hd (by simpa using hi) (by simpa using h)
theorem run_part_i (cs:Array Value)(o:Nat)(v:Value)(hv:cs[o]?=some v)(w:World):(part 3 cs o).run Try.prog w=.ok v w:=run_part_cell (d:=.int .i64) Try.underlying3 rfl cs o v hv w
theorem run_equalIn_i (d:Nat)(a b:Int)(w:World):(Op.equalIn (d+1) 3 (.int .i64 a) (.int .i64 b)).run Try.prog w=.ok (a==b) w:=run_equalIn_int w d 3 .i64 .i64 a b Try.underlying3
theorem run_equal_P4 (d:Nat)(a0 a1 a2 a3 b0 b1 b2 b3:Int)(w:World) :
  (Op.equalIn (d+1+1) 85 (.agg #[.int .i64 a0,.int .i64 a1,.int .i64 a2,.int .i64 a3]) (.agg #[.int .i64 b0,.int .i64 b1,.int .i64 b2,.int .i64 b3])).run Try.prog w=.ok (a0==b0 && (a1==b1 && (a2==b2 && a3==b3))) w:=by
 unfold Op.equalIn
 simp only[Sem.run_bind,run_underlying Try.underlying85,Result.andThen,run_sizeOf' (P:=Try.prog) (e:=3) (s:=1) (by kernel_rfl)]
 have pa:∀(x0 x1 x2 x3:Int) (w:World),(part 3 #[.int .i64 x0,.int .i64 x1,.int .i64 x2,.int .i64 x3] 0).run Try.prog w=.ok (.int .i64 x0) w∧(part 3 #[.int .i64 x0,.int .i64 x1,.int .i64 x2,.int .i64 x3] 1).run Try.prog w=.ok (.int .i64 x1) w∧(part 3 #[.int .i64 x0,.int .i64 x1,.int .i64 x2,.int .i64 x3] 2).run Try.prog w=.ok (.int .i64 x2) w∧(part 3 #[.int .i64 x0,.int .i64 x1,.int .i64 x2,.int .i64 x3] 3).run Try.prog w=.ok (.int .i64 x3) w:=
  fun _ _ _ _ _=>⟨run_part_i _ _ _ rfl _,run_part_i _ _ _ rfl _,run_part_i _ _ _ rfl _,run_part_i _ _ _ rfl _⟩
 have he:=run_equalIn_i d
 by_cases h0:a0=b0<;>by_cases h1:a1=b1<;>by_cases h2:a2=b2<;>by_cases h3:a3=b3 <;>
  simp[forIn,ForIn.forIn,List.range',Sem.run_bind,pa,he,Result.andThen,h0,h1,h2,h3]
theorem run_equal_P4':∀(a0 a1 a2 a3 b0 b1 b2 b3:Int) (w:World),
  (Op.equalIn 9999 85 (.agg #[.int .i64 a0,.int .i64 a1,.int .i64 a2,.int .i64 a3]) (.agg #[.int .i64 b0,.int .i64 b1,.int .i64 b2,.int .i64 b3])).run Try.prog w=.ok (a0==b0 && (a1==b1 && (a2==b2 && a3==b3))) w:=run_equal_P4 9997
theorem zc5 (t u a0 a1 a2 a3 b0 b1 b2 b3:Int)(w:World) :
  (Op.equalIn 10000 87 (.agg #[.int .i64 t,.int .i64 a0,.int .i64 a1,.int .i64 a2,.int .i64 a3]) (.agg #[.int .i64 u,.int .i64 b0,.int .i64 b1,.int .i64 b2,.int .i64 b3])).run Try.prog w=.ok (t==u && (a0==b0 && (a1==b1 && (a2==b2 && a3==b3)))) w:=by
 have he:=run_equal_P4'
 by_cases h:t=u
 ·by_cases h0:a0=b0<;>by_cases h1:a1=b1<;>by_cases h2:a2=b2<;>by_cases h3:a3=b3 <;>
   simp[go_sem,he,h,h0,h1,h2,h3]
 ·simp[go_sem,he,h]
end
end Go.Proofs.Ytlckpgahijlmoaa
