/- Inside the body of a range over a function, at the wide fence: a region without a defer is walked as anywhere. No condition. -/
import Derived.Test.YtlckpgahijlmoaaQ01
import Derived.OrdersIn
import Derived.Deep.Quiet
import Derived.RangeFuncNested
set_option maxRecDepth 100000
set_option maxHeartbeats 8000000
namespace Go.Proofs.Ytlckpgahijlmoaa
section
open Go.RowKit
def noDefer (ops:Array Oper):Bool:=ops.all fun o=>match o.op with | .defer _=>false | _=>true
theorem uponIn_of_upon {P:Program}{o:Oper}{a:Act}{next:Act→World→Prop}{Q:Exit→Act→World→Prop}(l n:Nat){r:Result Next}(h:o.upon P a next Q r) :
  o.uponIn (Fence.wide.inRound l) n P a next Q r:=by
 unfold Oper.upon at h
 unfold Oper.uponIn
 split at h
 ·exact h
 ·exact h
 ·exact h
 ·exact⟨fun hd=>by simp[Fence.inRound,Fence.wide] at hd,callsIn_wide.2 h⟩
 ·refine⟨fun hd=>by simp[Fence.inRound,Fence.wide] at hd,fun c cs _=>?_⟩
  obtain⟨v,w',r,s⟩:=h c cs
  exact⟨v,w',r,stepsIn_wide.2 s⟩
 ·exact h
 ·exact h.elim
theorem wpIn_of_wp_op {P:Program}{o:Oper}{a:Act}{w:World}{next:Act→World→Prop}{Q:Exit→Act→World→Prop}(l n:Nat)(hd:∀c,o.op≠.defer c)(h:o.wp P a w next Q) :
  o.wpIn (Fence.wide.inRound l) n P a w next Q:=by
 refine⟨fun _ _=>trivial,?_⟩
 rw[Oper.semAt_eq _ _ _ hd]
 exact uponIn_of_upon l n h
theorem noDefer_at {ops:Array Oper}(h:noDefer ops=true){i:Nat}{o:Oper}(hi:ops[i]?=some o):∀c,o.op≠.defer c:=by
 intro c e
 have hm:o∈ops:=Array.mem_of_getElem? hi
 have:=(Array.all_eq_true_iff_forall_mem.1 h) o hm
 rw[e] at this
 cases this
theorem ze7 {P:Program}{md:Region.Mode}{ops:Array Oper}{Q:Exit→Act→World→Prop}(l n:Nat)(hd:noDefer ops=true)(hno:¬LetsOut Q):∀(fuel:Nat) (listed:Array Bool) (a:Act) (w:World),
  wpAny P md ops Q fuel listed a w→wpAnyIn (Fence.wide.inRound l) n P md ops Q fuel listed a w
 | 0,_,_,_,h=>h
 | fuel+1,listed,a,w,h=>⟨h.1,fun i hi=>by
   have h2:=h.2 i hi
   unfold wpOp at h2
   unfold wpOpIn
   split
   ·rename_i ho;simp only[ho] at h2;exact ze7 l n hd hno fuel _ _ _ h2
   ·rename_i o ho
    simp only[ho] at h2
    split
    ·rename_i hw;simp only[hw,if_true] at h2
     exact wpIn_of_wp_op l n (noDefer_at hd ho) (Oper.wp_mono (fun a w h=>ze7 l n hd hno fuel _ a w h) (h2.resolve_right (fun x=>hno x.2)))
    ·rename_i hw;simp only[hw] at h2;exact⟨fun _ _=>trivial,ze7 l n hd hno fuel _ _ _ h2⟩⟩
theorem ze6 {P:Program}{id l n:Nat}{Q:Exit→Act→World→Prop}{a:Act}{w:World}{ops:List Oper}(C:World→Prop)(hm:P.follows .mixedOrders=true)(hd:noDefer ops.toArray=true)(hB:Region.lexB .any ops.toArray=true)
  (hC:C w.drew) (h:wpQuiet P ops.toArray C (fun a'=>∀w',C w'→Q .normal a' w') ops a):(Code.region id ops.toArray true).wpIn (Fence.wide.inRound l) n P Q a w:=by
 simp only[Region.lexB,Bool.and_eq_true] at hB
 let Q':Exit→Act→World→Prop:=fun e a w=>e=.normal∧Q .normal a w
 have hno:¬LetsOut Q':=fun ⟨_,_,e,_⟩=>by cases e
 refine Code.wpIn_mono (Q:=Q') (fun e a w h=>by obtain⟨rfl,h⟩:=h;exact h) ?_
 refine wpIn_region_any hm (ze7 l n hd hno _ _ _ _ (wpAny_of_quiet (C:=C) (Q:=fun a'=>∀w',C w'→Q .normal a' w') (fun _ w' hw' h=>⟨rfl,h w' hw'⟩) _ _ _ _ hC ?_))
 have:=wpAnyQ_lex (P:=P) (C:=C) (md:=.any) hB.1 ops 0 (Array.replicate ops.toArray.size false) a (by simp) (by simpa using hB.2) h
 simpa using this
end
end Go.Proofs.Ytlckpgahijlmoaa
