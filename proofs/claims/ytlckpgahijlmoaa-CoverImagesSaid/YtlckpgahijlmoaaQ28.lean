/- cover's asked: the covering or the error; what checked leaves is caught. -/
import Derived.Test.YtlckpgahijlmoaaQ27
import Derived.Recover
set_option maxRecDepth 100000
set_option maxHeartbeats 8000000
namespace Go.Proofs.Ytlckpgahijlmoaa
section
open Go.RowKit Go.Shelf Go.Maps
theorem caught (p q:Nat)(x y:Value)(w:World)(hc:w.cell? ⟨p,0,none⟩=some x)(hz:w.frozen? ⟨p,0,none⟩=false)(hc2:w.cell? ⟨q,0,none⟩=some y)(hz2:w.frozen? ⟨q,0,none⟩=false)(ne:p≠q) :
  CallsD Try.prog 84 #[.pointer (some ⟨p,0,none⟩),.pointer (some ⟨q,0,none⟩)] (.panicking [{ v:=noCov,recovered:=false }]) w fun e u' w'=>
   e=.returned (.tuple #[])∧u'=.panicking [{ v:=noCov,recovered:=true }]∧w'=((w.alloc (.cells #[] 148)).setCell ⟨p,0,none⟩ (.pointer none)).setCell ⟨q,0,none⟩ (.int .i64 110):=by
 have hta:∀w,(Instr.typeAssert (.iface 148 (.agg #[])) 20 148 true).run Try.prog w=.ok (.tuple #[.agg #[],.bool true]) w:=fun w=>by kernel_rfl
 refine callsD_of_wpS Try.func84 rfl fun c₀ cs hu=>?_
 apply wpS_seq
 apply wpS_region
 simp[wpOpsS,go_sem,recoverD,hu,Try.ntmps84,Exit.thenS]
 refine wpS_of_wp ?_
 have ca:=za4 hc
 have cb:=za4 hc2
 have fa:∀o,(w.alloc o).frozen? ⟨p,0,none⟩=false:=fun o=>((World.grownBy_alloc w o none).frozen_far ⟨p,0,none⟩ (za0 hc) (by simp)).trans hz
 have fb:∀o,(w.alloc o).frozen? ⟨q,0,none⟩=false:=fun o=>((World.grownBy_alloc w o none).frozen_far ⟨q,0,none⟩ (za0 hc2) (by simp)).trans hz2
 simp only[noCov,Array.replicate_succ,Array.replicate_zero,List.push_toArray,List.append_toArray,List.nil_append,List.cons_append,List.setIfInBounds_toArray,List.set_cons_succ,List.set_cons_zero]
 go_wp2
 exact⟨rfl,_,rfl,_,by simp[results,Try.f84,go_sem],rfl,rfl,rfl⟩
theorem idle (p q:Nat)(w:World) :
  CallsD Try.prog 84 #[.pointer (some ⟨p,0,none⟩),.pointer (some ⟨q,0,none⟩)] .returning w fun e u' w'=>e=.returned (.tuple #[])∧u'=.returning∧w'=w:=by
 refine callsD_of_wpS Try.func84 rfl fun c₀ cs hu=>?_
 apply wpS_seq
 apply wpS_region
 simp[wpOpsS,go_sem,recoverD,hu,Try.ntmps84,Exit.thenS]
 refine wpS_of_wp ?_
 simp only[Array.replicate_succ,Array.replicate_zero,List.push_toArray,List.append_toArray,List.nil_append,List.cons_append,List.setIfInBounds_toArray,List.set_cons_succ,List.set_cons_zero]
 go_wp2
 cases c₀
 simp_all [bodyPostS,results,Try.results84]
structure AK (w W:World)(N:Nat)(sh:Int)(pv:Value):Prop where
 bel:Below N w W
 s0:W.cell? ⟨N+1,0,none⟩=some (.int .i64 sh)
 s1:W.cell? ⟨N+1,1,none⟩=some pv
 p:W.cell? ⟨N+1+1,0,none⟩=some (.pointer none)
 fp:W.frozen? ⟨N+1+1,0,none⟩=false
 q:W.cell? ⟨N+1+1+1,0,none⟩=some (.int .i64 0)
 fq:W.frozen? ⟨N+1+1+1,0,none⟩=false
theorem AK.below {w W W':World}{N:Nat}{sh:Int}{pv:Value}(h:AK w W N sh pv)(hb:Below W.heap.size W W'):AK w W' N sh pv:=by
 have hg:=za6 hb (Nat.le_refl _) none
 have hN:=za0 h.s0
 simp only at hN
 exact⟨h.bel.trans (hb.mono (by omega)),hg.cell h.s0 (by simp),hg.cell h.s1 (by simp),hg.cell h.p (by simp),(hg.frozen_far ⟨N+1+1,0,none⟩ (za0 h.p) (by simp)).trans h.fp,hg.cell h.q (by simp),(hg.frozen_far ⟨N+1+1+1,0,none⟩ (za0 h.q) (by simp)).trans h.fq⟩
def AskedAns (G:Gl)(v:Value)(sh:Int)(pv:Value)(np:Nat)(len:Nat→Nat)(fp:Nat→Nat→Int)(e:Ending)(w':World):Prop:=
 (za9 G=false∧e=.returned (.tuple #[.pointer none,.int .i64 7])) ∨
 (za9 G=true∧(∃i,i<nE G∧revK G (6*G.n) i=true)∧e=.returned (.tuple #[.pointer none,.int .i64 8])) ∨
 (za9 G=true∧(∀i,i<nE G→revK G (6*G.n) i=false)∧¬CovOK G sh np len fp∧e=.returned (.tuple #[.pointer none,.int .i64 110])) ∨
 (za9 G=true∧(∀i,i<nE G→revK G (6*G.n) i=false)∧CovOK G sh np len fp∧∃Cv B' X mb bv vv ev tv lv dB rB,e=.returned (.tuple #[.pointer (some ⟨Cv,0,none⟩),.int .i64 0]) ∧
  CV w' w'.heap.size Cv B' X mb v pv bv G vv ev tv lv dB rB sh.toNat fp (fun k=>invP (fp k) sh.toNat))
theorem asked_walk (G:Gl)(v:Value)(sh:Int)(pv:Value)(np:Nat)(len:Nat→Nat)(fp:Nat→Nat→Int)(w:World)(hG:GlAt w.heap.size w v G)(hm:G.n≤9223372036854775807)(hpv:LLs w.heap.size w pv np len fp)(hlen:∀k,k<np→len k<4611686018427387904)(hnp:np<4611686018427387904) :
  Calls Try.prog 44 #[.agg #[v],.agg #[.int .i64 sh,pv]] w fun e w'=>Below w.heap.size w w'∧AskedAns G v sh pv np len fp e w':=by
 have hmf:∀(fn:Fn) (first cap:Array Value) (w:World),(Instr.makeFunc fn first cap).run Try.prog w=.ok (.func fn first cap) w:=fun _ _ _ _=>rfl
 have HG:=Hd3 hG hpv hlen
 obtain⟨a,cap,rfl⟩:∃a cap,v=.slice a G.n cap:=by obtain⟨a,_,_,cap,e,_⟩:=hG;exact⟨a,cap,e⟩
 obtain⟨pa,pc,rfl⟩:∃a cap,pv=.slice a np cap:=by obtain⟨a,_,_,cap,e,_⟩:=hpv;exact⟨a,cap,e⟩
 clear hG hpv hlen
 generalize hN:w.heap.size=N at *
 go_enter_defers Try.func44,Try.ntmps44
 go_wp2_with fail
 refine zb4 fun W0 hW=>?_
 have hk:AK w W0 N sh (.slice pa np pc):=by
  have hb:Below w.heap.size w W0:=by rw[hW];(repeat' (first | assumption | exact Below.refl _ _ | refine za7 ?_ (by assumption) | refine zb2 ?_ _ | refine za5 ?_ | refine zb1 ?_ (by simp<;>omega) _))
  rw[hN] at hb
  rw[hW] at hb ⊢
  subst hN
  exact⟨hb,by simp[go_sem],by simp[go_sem],by simp[go_sem],by simp[go_sem],by simp[go_sem],by simp[go_sem]⟩
 have hs0:N+4≤W0.heap.size:=by rw[hW];simp;omega
 clear hW
 refine (enter_walk G (.slice a G.n cap) W0 ((HG.out.1.below hk.bel).mono (by omega)) hm).mono ?_
 rintro e W1 ⟨hb1,h1⟩
 have hk1:=hk.below hb1
 have hs1:=hb1.size
 rcases h1 with ⟨h0,rfl⟩ | ⟨h0,hr,rfl⟩ | ⟨h0,hr,X,mb,vv,ev,tv,lv,dB,rB,rfl,hSP⟩
 ·have HK:=Hd2 hk1 h0
  obtain⟨-,s0,s1,p,zp,q,zq⟩:=hk1
  clear hk hb1 h0
  go_wp2
  refine⟨.tuple #[.pointer none,.int .i64 7],by simp[results,Try.f44,go_sem,p,q],?_,.inl ⟨HK.out.2,rfl⟩⟩
  exact (HK.out.1.bel.setCell (by show N≤N+1+1;omega) _).setCell (by show N≤N+1+1+1;omega) _
 ·have HK:=Hd3 hk1 h0 hr
  obtain⟨-,s0,s1,p,zp,q,zq⟩:=hk1
  clear hk hb1 h0 hr
  go_wp2
  refine⟨.tuple #[.pointer none,.int .i64 8],by simp[results,Try.f44,go_sem,p,q],?_,.inr (.inl ⟨HK.out.2.1,HK.out.2.2,rfl⟩)⟩
  exact (HK.out.1.bel.setCell (by show N≤N+1+1;omega) _).setCell (by show N≤N+1+1+1;omega) _
 ·have hbw:=hk1.bel
  have h85:=checked_walk h0 hSP ((HG.out.1.below hbw).mono (by omega)) sh (.slice pa np pc) np len fp ((HG.out.2.1.below hbw).mono (by omega)) HG.out.2.2 hnp
  have H85:=Hd5 h85 hk1 h0 hr hSP
  obtain⟨-,s0,s1,p,zp,q,zq⟩:=hk1
  clear hk hb1 h0 hr h85 hSP hbw
  go_wp2_with fail
  refine H85.out.1.mono ?_
  rintro e W2 ⟨hb2,⟨hcov,Cv,bv,rfl,hCN⟩ | ⟨hcov,rfl⟩⟩
  ·have hk2:=H85.out.2.1.below hb2
   have HK:=Hd4 hk2 hcov hCN hb2
   obtain⟨-,s02,s12,p2,zp2,q2,zq2⟩:=hk2
   clear hb2 hcov hCN p zp q zq s0 s1
   go_wp2
   refine leaves_cons (f:=84) (args:=#[.pointer (some ⟨N+1+1,0,none⟩),.pointer (some ⟨N+1+1+1,0,none⟩)]) (by simp) (by simp[go_sem]) ?_
   refine (idle _ _ _).mono ?_
   rintro e u' w'' ⟨rfl,rfl,rfl⟩
   simp only[Leaves,settle]
   have hsc1:=za1 W2 (N+1+1) 0 (.pointer (some ⟨Cv,0,none⟩))
   have hsc2:=za1 (W2.setCell ⟨N+1+1,0,none⟩ (.pointer (some ⟨Cv,0,none⟩))) (N+1+1+1) 0 (.int .i64 0)
   have hcov:=HK.out.2.1
   have hCN3:=(HK.out.2.2.1.kept hsc1 (fun r e=>by cases e;omega)).kept hsc2 (fun r e=>by cases e;omega)
   have hSP3:=((H85.out.2.2.2.2.below HK.out.2.2.2).keptRow hsc1 (by omega)).keptRow hsc2 (by omega)
   have hb3:Below N w ((W2.setCell ⟨N+1+1,0,none⟩ (.pointer (some ⟨Cv,0,none⟩))).setCell ⟨N+1+1+1,0,none⟩ (.int .i64 0)):=(HK.out.1.bel.setCell (by show N≤N+1+1;omega) _).setCell (by show N≤N+1+1+1;omega) _
   have hbs:=hb3.size
   have hlo:=hcov.lo
   have hpv3:=((HG.out.2.1.below hb3).mono (B':=((W2.setCell ⟨N+1+1,0,none⟩ (.pointer (some ⟨Cv,0,none⟩))).setCell ⟨N+1+1+1,0,none⟩ (.int .i64 0)).heap.size) (by have:=HK.out.1.bel.size;have:=HK.out.2.2.2.size;omega)).lens (len':=fun _=>sh.toNat) (fun k hk=>zg1 (by
    have h:=hcov.perms k hk
    rwa [show sh=((sh.toNat:Nat):Int) by omega] at h))
   rw[hcov.num] at hpv3
   refine⟨.tuple #[.pointer (some ⟨Cv,0,none⟩),.int .i64 0],by simp[results,Try.f44,go_sem,p2,q2],hb3,.inr (.inr (.inr ⟨H85.out.2.2.1,H85.out.2.2.2.1,hcov,Cv,_,X,mb,bv,vv,ev,tv,lv,dB,rB,rfl,hCN3.CV hSP3 ?_⟩))⟩
   rw[hcov.num]
   exact hpv3
  ·have hk2:=H85.out.2.1.below hb2
   have HK:=Hd2 hk2 hcov
   obtain⟨-,s02,s12,p2,zp2,q2,zq2⟩:=hk2
   clear hb2 hcov p zp q zq s0 s1
   go_wp2
   refine leaves_cons (f:=84) (args:=#[.pointer (some ⟨N+1+1,0,none⟩),.pointer (some ⟨N+1+1+1,0,none⟩)]) (by simp) (by simp[go_sem]) ?_
   refine (caught (N+1+1) (N+1+1+1) _ _ _ p2 zp2 q2 zq2 (by omega)).mono ?_
   rintro e u' w'' ⟨rfl,rfl,rfl⟩
   simp only[settle]
   refine⟨.tuple #[.pointer none,.int .i64 110],?_,?_,.inr (.inr (.inl ⟨H85.out.2.2.1,H85.out.2.2.2.1,HK.out.2,rfl⟩))⟩
   ·have ca:=za4 p2
    have cb:=za4 q2
    simp[results,Try.f44,go_sem,ca,cb]
   ·have hNW:=HK.out.1.bel.size
    exact (((HK.out.1.bel.alloc (by omega) _).setCell (by show N≤N+1+1;omega) _).setCell (by show N≤N+1+1+1;omega) _)
end
end Go.Proofs.Ytlckpgahijlmoaa
