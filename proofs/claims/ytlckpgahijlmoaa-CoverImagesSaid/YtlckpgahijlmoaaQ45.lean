/- Drawing regions in rounds of a range over a function: loads taken first; reads and a forced tail. No condition. -/
import Derived.Test.YtlckpgahijlmoaaQ44
import Derived.Test.YtlckpgahijlmoaaQ06
import Derived.StillTail
set_option maxRecDepth 100000
set_option maxHeartbeats 8000000
namespace Go.Proofs.Ytlckpgahijlmoaa
section
open Go.RowKit
theorem wpIn_region_until {P:Program}{id l n:Nat}{Q:Exit→Act→World→Prop}{a:Act}{w:World}{ops:List Oper}(S:World→Prop)(L:Nat)(hm:P.follows .mixedOrders=true)(hd:noDefer ops.toArray=true)
  (h:wpAnyU P .any ops.toArray (fun e a w=>e=.normal∧Q .normal a w) S L ops.toArray.size (Array.replicate ops.toArray.size false) a w.drew):(Code.region id ops.toArray true).wpIn (Fence.wide.inRound l) n P Q a w:=by
 have hno:¬LetsOut (fun e a w=>e=Exit.normal∧Q .normal a w):=fun ⟨_,_,e,_⟩=>by cases e
 refine Code.wpIn_mono (Q:=fun e a w=>e=.normal∧Q .normal a w) (fun e a w h=>by obtain⟨rfl,h⟩:=h;exact h) ?_
 exact wpIn_region_any hm (ze7 l n hd hno _ _ _ _ (wpAnyU.any _ _ _ _ h))
theorem wpIn_region_tail {P:Program}{id k m:Nat}{Q:Exit→Act→World→Prop}{a:Act}{w:World}{l:List Oper}(n:Nat)(hm:P.follows .mixedOrders=true)(hd:noDefer l.toArray=true)(hB:Region.lexTailB .any l.toArray n=true)
  (h:wpStill P l.toArray w.drew (fun a'=>wpList P l.toArray (fun e a w=>e=.normal∧Q .normal a w) (l.drop n) a' w.drew) (l.take n) a):(Code.region id l.toArray true).wpIn (Fence.wide.inRound k) m P Q a w:=by
 have hno:¬LetsOut (fun e a w=>e=Exit.normal∧Q .normal a w):=fun ⟨_,_,e,_⟩=>by cases e
 refine Code.wpIn_mono (Q:=fun e a w=>e=.normal∧Q .normal a w) (fun e a w h=>by obtain⟨rfl,h⟩:=h;exact h) ?_
 refine wpIn_region_any hm (ze7 k m hd hno _ _ _ _ ?_)
 simp only[Region.lexTailB,Bool.and_eq_true,decide_eq_true_eq] at hB
 obtain⟨⟨⟨⟨hsel,hn⟩,hs⟩,hc⟩,hlex⟩:=hB
 have hn':n<l.length:=by simpa using hn
 have htl:(l.take n).length=n:=by simp;omega
 have hdl:(l.drop n).length=l.toArray.size-n:=by simp
 have inv0:HeadInv .any l.toArray n (Array.replicate l.toArray.size false):=
  ⟨by simp,fun j oj _ hl=>(by rw[getD_replicate_false] at hl;cases hl),fun t _ ht=>getD_in (by simpa using ht) (getD_replicate_false _ _)⟩
 have H:=wpAnyL_lex (md:=.any) (g:=l.toArray.size-n) hsel hs hc hn (l.take n) 0 _ a (fun j hj=>by
  have hj':j<n:=by rw[htl] at hj;exact hj
  simp[hj']) (by simpa using htl) inv0 (by rw[htl];exact hlex) h
 have:=wpAny_of_head (Q':=fun e a w=>e=Exit.normal∧Q .normal a w) (g:=l.toArray.size-n) (fun listed a' hL=>by
  have:=wpAny_of_seq (md:=.any) (Q':=fun e a w=>e=Exit.normal∧Q .normal a w) (l.drop n) n listed a' w.drew (fun j=>by simp[List.getElem?_drop]) (by rw[hdl];exact hL.1) hL.2
  rwa [hdl] at this) _ _ _ H
 rw[htl,show n+(l.toArray.size-n)=l.toArray.size by omega] at this
 exact this
end
end Go.Proofs.Ytlckpgahijlmoaa
