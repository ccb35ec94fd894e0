/- A region that draws its order: loads are taken first under a condition on the world that must hold only till a certain operation has come up. -/
import Derived.OrdersHeld
import Derived.Deep.RegionHeld
import Derived.Deep.AppendLies
import Derived.Great.Walk
set_option maxRecDepth 100000
set_option maxHeartbeats 8000000
namespace Go.Proofs.Ytlckpgahijlmoaa
section
section
variable {P:Program}{ops:Array Oper}{Q:Exit→Act→World→Prop}{md:Region.Mode}{S:World→Prop}{L:Nat}
def wpAnyU (P:Program)(md:Region.Mode)(ops:Array Oper)(Q:Exit→Act→World→Prop)(S:World→Prop)(L:Nat):Nat→Array Bool→Act→World→Prop
 | 0,ls,a,w=>Region.ready md ops ls=[]∧Q .normal a w
 | fuel+1,ls,a,w=>(Region.ready md ops ls=[]→Q .normal a w) ∧
   ∀i∈Region.ready md ops ls,wpOp P ops Q i (fun a' w'=>((ls.setIfInBounds i true).getD L true=false→S w')∧wpAnyU P md ops Q S L fuel (ls.setIfInBounds i true) a' w') a w
theorem wpAnyU.any:∀(fuel:Nat) (ls:Array Bool) (a:Act) (w:World),wpAnyU P md ops Q S L fuel ls a w→wpAny P md ops Q fuel ls a w
 | 0,_,_,_,h=>h
 | fuel+1,_,_,_,h=>⟨h.1,fun i hi=>wpOp_mono (fun a' w' h'=>wpAnyU.any fuel _ a' w' h'.2) (h.2 i hi)⟩
def Shut (md:Region.Mode)(ops:Array Oper)(ls:Array Bool):Prop:=∀j o,ops[j]?=some o→ls.getD j false=true→∀e∈o.after,Region.binds md e=true→ls.getD e.on false=true
def shutB (md:Region.Mode)(ops:Array Oper)(ls:Array Bool):Bool:=(List.range ops.size).all fun j=>!ls.getD j false || ops[j]?.all fun o=>o.after.all fun e=>!Region.binds md e || ls.getD e.on false
theorem shutB_shut {ls:Array Bool}(h:shutB md ops ls=true):Shut md ops ls:=fun j o ho hl e he hb=>by
 have h1:=(List.all_eq_true.1 h) j (List.mem_range.2 (Array.getElem?_eq_some_iff.1 ho).1)
 simp only[hl,ho,Bool.not_true,Bool.false_or,Option.all_some] at h1
 have h2:=(Array.all_eq_true_iff_forall_mem.1 h1) e he
 simpa [hb] using h2
theorem Shut.set {ls:Array Bool}{i:Nat}(h:Shut md ops ls)(hi:i∈Region.ready md ops ls):Shut md ops (ls.setIfInBounds i true):=fun j o ho hl e he hb=>by
 by_cases q:i=j
 ·subst q
  obtain⟨_,o',ho',hall⟩:=mem_ready.1 hi
  rw[ho] at ho'
  cases ho'
  exact getD_set_true (hall e he hb)
 ·rw[getD_set_ne false q] at hl
  exact getD_set_true (h j o ho hl e he hb)
def reachB (md:Region.Mode)(ops:Array Oper)(i:Nat):Nat→Nat→Bool
 | 0,_=>false
 | f+1,l=>ops[l]?.any fun o=>o.after.any fun e=>Region.binds md e && (e.on==i || reachB md ops i f e.on)
theorem reached {ls:Array Bool}{i:Nat}(hs:Shut md ops ls):∀f l,reachB md ops i f l=true→(l∈Region.ready md ops ls∨ls.getD l false=true)→ls.getD i false=true
 | 0,_,h,_=>by cases h
 | f+1,l,h,hl=>by
  unfold reachB at h
  cases ho:ops[l]? with
  | none=>simp[ho] at h
  | some o=>
   rw[ho,Option.any_some,Array.any_eq_true'] at h
   obtain⟨e,he,h2⟩:=h
   simp only[Bool.and_eq_true,Bool.or_eq_true,beq_iff_eq] at h2
   have h3:ls.getD e.on false=true:=by
    rcases hl with hl | hl
    ·obtain⟨_,o',ho',hall⟩:=mem_ready.1 hl
     rw[ho] at ho'
     cases ho'
     exact hall e he h2.1
    ·exact hs l o ho hl e he h2.1
   rcases h2.2 with q | q
   ·rw[←q];exact h3
   ·exact reached hs f e.on q (.inr h3)
theorem un {ls:Array Bool}{i:Nat}(hi:i∈Region.ready md ops ls):ls.getD i false=false:=by
 have h0:=(mem_ready.1 hi).1
 cases hq:ls[i]? with
 | none=>simp[hq]
 | some b=>simp[hq] at h0 ⊢;exact h0
theorem wpAnyU.first {i g:Nat}{oi:Oper}{v:Value}(hi:ops[i]?=some oi)(hs:Region.noSelect ops=true)(hQ:∀c a w,Q (.panic c) (a.put oi.dst v) w→Q (.panic c) a w)
  (hne:L≠i) (hw:reachB md ops i g L=true) :
  ∀(fuel:Nat) (ls:Array Bool) (a:Act) (w:World),Shut md ops ls→(∀j oj,ops[j]?=some oj→j≠i→ls.getD j true=false→(∀e∈oj.after,Region.binds md e=true→e.on≠i)→oi.apart ops oj=true) →
   i∈Region.ready md ops ls→ls.getD L true=false→YieldsIf P ops S oi v a→S w→wpAnyU P md ops Q S L fuel (ls.setIfInBounds i true) (a.put oi.dst v) w→wpAnyU P md ops Q S L (fuel+1) ls a w
 | 0,ls,a,w=>fun _ _ hr hL hy hS H=>⟨fun h=>absurd (h▸hr) (by simp),fun j hj=>by
   by_cases e:j=i
   ·subst e;exact hy.wpOp hi hS ⟨fun _=>hS,H⟩
   ·exact absurd (ready_mono hj e) (by rw[H.1];simp)⟩
 | fuel+1,ls,a,w=>fun hsh hf hr hL hy hS H=>⟨fun h=>absurd (h▸hr) (by simp),fun j hj=>by
   by_cases e:j=i
   ·subst e;exact hy.wpOp hi hS ⟨fun _=>hS,H⟩
   ·have hjL:j≠L:=fun q=>by
     have h1:=reached hsh g L hw (.inl (q▸hj))
     rw[un hr] at h1;cases h1
    obtain⟨hjun,oj,hoj,hall⟩:=mem_ready.1 hj
    have hno:∀e'∈oj.after,Region.binds md e'=true→e'.on≠i:=fun e' he hb q=>by
     have h1:=hall e' he hb
     rw[q,un hr] at h1;cases h1
    have ns:=Region.noSelect_spec hs
    have h2:=wpOp_putIf hoj (hf j oj hoj e hjun hno) (fun cs b=>ns i oi cs b hi) (fun cs b=>ns j oj cs b hoj) hQ hy (H.2 j (ready_mono hj e))
    have hLj:(ls.setIfInBounds j true).getD L true=false:=by rw[getD_set_ne true hjL];exact hL
    refine wpOp_mono (fun a' w' h3=>?_) h2
    have hSw:S w':=h3.2.1 (by rw[getD_set_ne true hjL,getD_set_ne true (Ne.symm hne)];exact hL)
    refine⟨fun _=>hSw,wpAnyU.first hi hs hQ hne hw fuel _ a' w' (hsh.set hj) (fun k ok hk hki hun hnk=>hf k ok hk hki ?_ hnk) (ready_mono hr (Ne.symm e)) hLj h3.1 hSw ?_⟩
    ·by_cases q:j=k
     ·subst q;exact hjun
     ·rwa [getD_set_ne true q] at hun
    ·rw[Array.setIfInBounds_comm _ _ e];exact h3.2.2⟩
theorem wpAnyU.take {i:Nat}{oi:Oper}{v:Value}{fuel:Nat}{ls:Array Bool}{a:Act}{w:World}(hi:ops[i]?=some oi)
  (hc:(Region.noSelect ops && Region.free md ops ls i && (Region.ready md ops ls).contains i && L !=i && reachB md ops i ops.size L && ls.getD L true==false && shutB md ops ls)=true)
  (hQ:∀c a w,Q (.panic c) (a.put oi.dst v) w→Q (.panic c) a w) (hy:YieldsIf P ops S oi v a) (hS:S w)
  (h:wpAnyU P md ops Q S L fuel (ls.setIfInBounds i true) (a.put oi.dst v) w):wpAnyU P md ops Q S L (fuel+1) ls a w:=by
 simp only[Bool.and_eq_true,beq_iff_eq,bne_iff_ne] at hc
 obtain⟨⟨⟨⟨⟨⟨h1,h2⟩,h3⟩,h4⟩,h5⟩,h6⟩,h7⟩:=hc
 exact wpAnyU.first hi h1 hQ h4 h5 fuel ls a w (shutB_shut h7) (Region.free_spec hi h2) (by simpa using h3) h6 hy hS h
theorem wpAnyU.one {i:Nat}{o:Oper}{fuel:Nat}{ls:Array Bool}{a:Act}{w:World}(hr:Region.ready md ops ls=[i])(hi:ops[i]?=some o)(hg:o.guard=none)
  (h:∀K:Act→World→Prop,(∀a' w',((ls.setIfInBounds i true).getD L true=false→S w')→wpAnyU P md ops Q S L fuel (ls.setIfInBounds i true) a' w'→K a' w')→o.wp P a w K Q):wpAnyU P md ops Q S L (fuel+1) ls a w:=by
 refine⟨fun q=>absurd (hr.symm.trans q) (by simp),fun j hj=>?_⟩
 rw[hr,List.mem_singleton] at hj
 subst hj
 unfold wpOp
 have hwt:Region.wanted o (yielded ops a.tmps)=true:=by simp[Region.wanted,hg]
 simp only[hi,hwt,if_true]
 exact .inl (h _ fun a' w' h1 h2=>⟨h1,h2⟩)
theorem wpAnyU.fin {ls:Array Bool}{a:Act}{w:World}(hr:Region.ready md ops ls=[])(h:Q .normal a w):∀fuel,wpAnyU P md ops Q S L fuel ls a w
 | 0=>⟨hr,h⟩
 | _+1=>⟨fun _=>h,by rw[hr];simp⟩
theorem wp_region_until {id:Nat}{a:Act}{w:World}(S:World→Prop)(L:Nat)(hm:P.follows .mixedOrders=true)(h:wpAnyU P .any ops Q S L ops.size (Array.replicate ops.size false) a w.drew):(Code.region id ops true).wp P Q a w:=
 wp_region_any hm (wpAnyU.any _ _ _ _ h)
end
end
end Go.Proofs.Ytlckpgahijlmoaa
