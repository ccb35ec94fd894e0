/- Image and Orientation of every gluing, number and permutations return what the definitions give, or the documented error; Image returns a covering exactly if each relator of the presentation of the fundamental group acts as the identity on all sheets: the statement CoverImages, for every input. No condition. -/
import Derived.Test.YtlckpgahijlmoaaQ52
import Derived.Test.YtlckpgahijlmoaaQ54
import Derived.Test.YtlckpgahijlmoaaRows
import Derived.WalkKit
import Derived.ProofKit
import Derived.ChangeOld
import Derived.Below
set_option maxRecDepth 100000
set_option maxHeartbeats 8000000
namespace Go.Proofs.Ytlckpgahijlmoaa
section
open Go.ChangeShapes Go.WideShapes Go.ChangeAt Go.RowKit
theorem own:ownKnob Try.prog.godebug=none:=by kernel_rfl
theorem images_lifted (os:Os)(started:os.Started)(H:Type)(enc:TypeId×Value→H) :
  ReturnsInHanded {} Try.checked os 8 .any (Rows.coverImagesSpec.pre6 enc Try.prog Try.f8 Rows.coverImagesRow.domain false) (Rows.coverImagesSpec.post enc Try.prog Try.f8 false true false false):=by
 refine returnsInHanded_of_change_sized (C:=Try.checked) own started (by kernel_rfl) Try.func8
  (ChangeSpec.witness6 (enc:=enc) (C:=Try.checked) false ⟨#[],#[.agg #[.slice none 0 0],.int .i64 0,.slice none 0 0],[]⟩ 8 (by kernel_rfl) (by kernel_rfl) (by kernel_rfl) (by kernel_rfl)) ?_
 intro W base args ds gs before hval0 hW _ hsz0 _
 have hval:∀(j:Nat) t v,Try.f8.params[j]?=some t→args[j]?=some v→Value.okWide Try.prog W .any base t v:=hval0
 have hsz:(DataW.weightsEach Try.prog (Try.f8.params.toList++Rows.coverImagesSpec.plain.varTypes Try.prog) (ds++gs)).all (·≤reachBytes)=true:=hsz0
 clear hsz0
 have hW':=hW
 obtain⟨p,q,hA0,hV,rfl,hfz,hnd⟩:=hW
 have hA:DataW.TrodAll enc Try.prog W 0 (fun _=>true) true Try.f8.params.toList args.toList ds p:=hA0
 rw[Try.params8] at hA hval hsz
 obtain⟨v0,vs0,d0,ds0,p0,q0,hargs,rfl,rfl,h0,r0⟩:=trodAll_cons hA
 obtain⟨v1,vs1,d1,ds1,p1,q1,rfl,rfl,rfl,h1,r1⟩:=trodAll_cons r0
 obtain⟨v2,vs2,d2,ds2,p2,q2,rfl,rfl,rfl,h2,r2⟩:=trodAll_cons r1
 obtain⟨rfl,rfl,rfl⟩:=trodAll_nil r2
 obtain rfl:args=#[v0,v1,v2]:=by cases args;simp_all
 obtain⟨rfl,rfl⟩:=trodVars_none hV
 have hsz2:∀(j:Nat) (t:TypeId) (d:DataW H),[24,3,26][j]?=some t→[d0,d1,d2][j]?=some d→∀m∈d.weights Try.prog t,m≤reachBytes:=fun j t d ht hd m hm=>by
  have h:=List.all_eq_true.1 (show (DataW.weightsEach Try.prog [24,3,26] [d0,d1,d2]).all (fun x=>decide (x≤reachBytes))=true from hsz) m (DataW.weights_mem_each ht hd m hm)
  simpa using h
 have w2:=hsz2 2 26 d2 rfl rfl
 clear hsz hsz2
 obtain⟨c0,rfl,-⟩:=okWide_struct Try.underlying24 (hval 0 24 v0 rfl rfl)
 obtain⟨a2,l2,k2,rfl⟩:=okWide_slice Try.underlying26 (hval 2 26 v2 rfl rfl)
 have s0:=h0
 have s2:=h2
 have lt0:∀x∈p0,x.block<W.heap.size:=by obtain⟨m,hm⟩:=s0;exact DataW.trod_lt m _ _ _ hm
 have lt2:∀x∈p2,x.block<W.heap.size:=by obtain⟨m,hm⟩:=s2;exact DataW.trod_lt m _ _ _ hm
 obtain⟨u,G,e0,g0,n0⟩:=open_gluing h0
 obtain⟨n,rfl,rfl,rfl,w1⟩:=open_int Try.underlying3 (hval 1 3 v1 rfl rfl) h1
 obtain⟨m2,hm2⟩:=h2
 obtain⟨u2,ni,li,fi,e2,g2,n2,l3⟩:=open_listsC hm2
 simp only[Value.cells] at e0 e2
 subst e0
 obtain rfl:u2=.slice a2 l2 k2:=by simpa using e2.symm
 clear hA0 hval0
 have hml:maxLen≤9223372036854775807:=by decide
 obtain⟨l4,l5⟩:=l3 w2
 refine (images_walk G u n _ ni li fi W g0 (by omega) g2 (fun k hk=>by have:=l5 k hk;omega) (by omega)).mono fun e W' ⟨he,bel⟩=>?_
 subst he
 exact⟨_,rfl,_,_,_,[],_,[],hW',trodAll_mk1 (shut_bool Try.underlying4 _),(trodAll_cons_mk (Below.trod laidOut (by kernel_rfl) (of_decide_eq_true (by kernel_rfl)) s0 bel lt0) (trodAll_cons_mk (shut_int Try.underlying3 w1) (trodAll_cons_mk (Below.trod laidOut (by kernel_rfl) (of_decide_eq_true (by kernel_rfl)) s2 bel lt2) trodAll_mk0))),rfl,bel.frame _,fun h=>by cases h⟩
theorem images_holds:Rows.CoverImagesSaid:=
 OpenClaim.holds_of_wide 8 Try.f8 rfl rfl rfl rfl rfl rfl rfl ⟨rfl,rfl,rfl,rfl,rfl⟩ rfl rfl rfl rfl rfl (by kernel_rfl) Try.func8 (by kernel_rfl)
  (of_decide_eq_true (by kernel_rfl)) (by unfold Func.isWrapper;first|(rw[if_pos (by decide +kernel)];kernel_rfl)|(rw[if_neg (by decide +kernel)];exact⟨rfl,rfl⟩))
  (fun os started H enc _=>images_lifted os started H enc)
end
end Go.Proofs.Ytlckpgahijlmoaa
