/- skel's skeleton of a valid gluing. -/
import Derived.Test.YtlckpgahijlmoaaQ13
import Derived.Deep.RegionLaw
import Derived.Laws.Cover3
set_option maxRecDepth 100000
set_option maxHeartbeats 8000000
namespace Go.Proofs.Ytlckpgahijlmoaa
section
open Go.RowKit Go.Shelf Go.Maps
def cT (t:Nat)(o:Nat):Nat:=if o=5 then 0 else t
def xT (G:Gl)(t:Nat)(o:Nat):List Value:=if o=0 then ints (vN G) (4*t) else if o=1 then ints (eN G) (6*t) else if o=2 then ints (fN G) (4*t) else []
theorem und84:Try.prog.underlying 84=some (.array 4 3):=by kernel_rfl
theorem und162:Try.prog.underlying 162=some (.array 6 3):=by kernel_rfl
theorem below_push {A wr W1 w1:World}{K S:Nat}{qo x:Value}{o:Nat}(hK:A.heap.size=K)(hB:Below K A wr)(hga:wr.grownBy W1 none)(hgrow:W1.grownBy w1 qo.ownBlock)(hS:K≤S)(hq:∀k,qo.ownBlock=some k→K≤k):Below K A (w1.setCell ⟨S,o,none⟩ x):=
 have h0:K≤wr.heap.size:=hK▸hB.size
 ((hB.grown hga h0 (fun k hk=>by cases hk)).grown hgrow (Nat.le_trans h0 hga.size) hq).setCell hS _
theorem pA_lt (k:Nat):pA k<4:=by unfold pA;split<;>(try split)<;>omega
theorem pB_lt (k:Nat):pB k<4:=by unfold pB;split<;>(try split)<;>omega
theorem eN_lt {W:World}{B C b1 b2 b3 b4:Nat}{v:Value}{G:Gl}(h:CL W B C b1 b2 b3 b4 G.n v (zb5 G)){i:Nat}(hi:i<6*G.n):eN G i<nE G:=by
 obtain⟨f1,f2⟩:=h.u3.rfacts
 exact cnt_lt _ (f2 i hi) (by have:=f1 i hi;omega)
theorem updO_updO {α:Type}(q:Nat→α)(o:Nat)(x y:α):updO (updO q o x) o y=updO q o y:=by
 funext i;by_cases e:i=o<;>simp[updO,e]
theorem ze3 {w:World}{base base':Nat}{e:TypeId}{size:Nat}{v:Value}{n:Nat}{xs:List Value}(h:w.ownsRow base e size v n xs)(hb:base'≤base):w.ownsRow base' e size v n xs:=by
 refine⟨h.1,?_⟩
 rcases h.2 with h | ⟨g,cap,cur,h1,h2,h3⟩
 ·exact .inl h
 ·exact .inr ⟨g,cap,cur,h1,Nat.le_trans hb h2,h3⟩
theorem SK.other {W:World}{K S dB rB sz:Nat}{q:Nat→Value}{c:Nat→Nat}{xs:Nat→List Value}{rev:Nat→Bool}(h:SK W K S dB rB sz q c xs rev){A:Nat}(hA:A<K)(o:Nat)(v:Value):SK (W.setCell ⟨A,o,none⟩ v) K S dB rB sz q c xs rev:=by
 have hsc:=za1 W A o v
 obtain⟨l1,l2,l3,l4,l5,l6⟩:=h.lo
 obtain⟨gd,hd⟩:=h.dr
 refine⟨fun o ho=>hsc.cell (h.cc o ho) (by simp;omega),hsc.cell h.c3 (by simp;omega),hsc.cell h.c4 (by simp;omega),fun o=>by rw[World.frozen?_setCell];exact h.fz o,fun o ho=>?_,⟨gd,za3 hd hsc (by simp;omega)⟩,za3 h.rr hsc (by simp;omega),h.ne,h.lo⟩
 refine (h.own o ho).kept hsc ?_
 cases hq:(q o).ownBlock with
 | none=>exact .inl rfl
 | some k=>exact .inr (by have:=(h.own o ho).lt k hq;simp;omega)
theorem six_sk {W:World}{K S dB rB sz:Nat}{q:Nat→Value}{c:Nat→Nat}{xs:Nat→List Value}{rev:Nat→Bool}(h:SK W K S dB rB sz q c xs rev){A:Nat}(hA:A<K)(_:True)(v0 v1 v2 v3 v4 v5:Value) :
  SK ((((((W.setCell ⟨A,0,none⟩ v0).setCell ⟨A,1,none⟩ v1).setCell ⟨A,2,none⟩ v2).setCell ⟨A,3,none⟩ v3).setCell ⟨A,4,none⟩ v4).setCell ⟨A,5,none⟩ v5) K S dB rB sz q c xs rev:=
 (((((h.other hA 0 v0).other hA 1 v1).other hA 2 v2).other hA 3 v3).other hA 4 v4).other hA 5 v5
def q0:Nat→Value:=fun _=>.slice none 0 0
theorem rowIs_of_made {W:World}{b n:Nat}{z:Value}{t:TypeId}(h:W.heap[b]?=some (.cells (madeCells #[z] n) t)):W.rowIs b t n (fun _=>z):=by
 obtain⟨c,h1,h2,h3⟩:=World.rowIs_made W z n t
 have:c=madeCells #[z] n:=by
  have e:=(MapKept.heap_alloc W (.cells (madeCells #[z] n) t)).1
  rw[h1] at e
  simpa using e
 subst this
 exact⟨_,h,h2,h3⟩
theorem al_0 (w:World)(a b c:Obj):(((w.alloc a).alloc b).alloc c).drew.heap[w.heap.size]?=some a:=
 (show (((w.alloc a).alloc b).alloc c).heap[w.heap.size]?=_ from Below.heap_alloc _ _ _ (by simp;omega)).trans ((Below.heap_alloc _ _ _ (by simp)).trans (MapKept.heap_alloc w a).1)
theorem al_1 (w:World)(a b c:Obj):(((w.alloc a).alloc b).alloc c).drew.heap[w.heap.size+1]?=some b:=by
 have h:=(MapKept.heap_alloc (w.alloc a) b).1
 rw[World.size_alloc] at h
 exact (show (((w.alloc a).alloc b).alloc c).heap[w.heap.size+1]?=_ from Below.heap_alloc _ _ _ (by simp)).trans h
theorem al_2 (w:World)(a b c:Obj):(((w.alloc a).alloc b).alloc c).drew.heap[w.heap.size+1+1]?=some c:=by
 have h:=(MapKept.heap_alloc ((w.alloc a).alloc b) c).1
 rw[World.size_alloc,World.size_alloc] at h
 exact h
theorem SK.fresh {W:World}{K S dB rB sz:Nat}(hS:W.heap[S]?=some (.cells #[.slice none 0 0,.slice none 0 0,.slice none 0 0,.slice (some ⟨dB,0,none⟩) sz sz,.slice (some ⟨rB,0,none⟩) sz sz,.slice none 0 0] 54))
  (hd:W.heap[dB]?=some (.cells (madeCells #[.int .i64 0] sz) 3)) (hr:W.heap[rB]?=some (.cells (madeCells #[.bool false] sz) 4)) (lo:K≤S∧K≤dB∧K≤rB∧S≠dB∧S≠rB∧dB≠rB) :
  SK W K S dB rB sz q0 (fun _=>0) (fun _=>[]) (fun _=>false):=by
 refine⟨fun o ho=>?_,?_,?_,fun o=>?_,fun o ho=>World.ownsRow_nil _ _ _ _,⟨fun _=>0,rowIs_of_made hd⟩,rowIs_of_made hr,fun o ho k hk=>?_,lo⟩
 ·rcases ho with rfl | rfl | rfl | rfl<;>simp[World.cell?,hS,q0]
 ·simp[World.cell?,hS]
 ·simp[World.cell?,hS]
 ·simp[World.frozen?,hS]
 ·simp[q0,Value.ownBlock] at hk
theorem skeleton_walk (G:Gl)(v:Value)(w:World)(hG:GlAt w.heap.size w v G)(hok:za9 G=true) :
  Calls Try.prog 62 #[.agg #[v]] w fun e w'=>∃sv,e=.returned sv∧SkR w' w.heap.size sv G∧Below w.heap.size w w':=by
 have hn:G.n≤1000:=by simp only[za9,Bool.and_eq_true,decide_eq_true_eq] at hok;exact hok.1
 have hsz:nE G≤6000:=by have:=zg7 (zb5 G).r3 (6*G.n);unfold nE;omega
 have hnv:nV G≤4000:=by have:=zg7 (zb5 G).r1 (4*G.n);unfold nV;omega
 have HOK:=Lib.hid hok;clear hok
 have HG:=Lib.hid hG
 obtain⟨a,b,off,cap,rfl,hga,hc⟩:=hG
 clear hga hc
 have G1:∀o o2,GlAt ((w.alloc o).alloc o2).heap.size ((w.alloc o).alloc o2) (.slice a G.n cap) G:=fun o o2=>(HG.out.below (B:=w.heap.size) (by (repeat' (first | assumption | exact Below.refl _ _ | refine za7 ?_ (by assumption) | refine zb2 ?_ _ | refine za5 ?_ | refine zb1 ?_ (by simp<;>omega) _)))).mono (by simp;omega)
 go_enter Try.func62,Try.ntmps62
 go_wp2_with (go_at_call 60;refine (newClasses_walk G (.slice a G.n cap) _ (G1 _ _) HOK.out).mono ?_;rintro e W2 ⟨C,b1,b2,b3,b4,rfl,hCL,hb⟩)
 have h2:∀W,(∃o o2,W=(w.alloc o).alloc o2)→True:=fun _ _=>trivial
 clear h2
 have hB2:Below w.heap.size w W2:=by (repeat' (first | assumption | exact Below.refl _ _ | refine za7 ?_ (by assumption) | refine zb2 ?_ _ | refine za5 ?_ | refine zb1 ?_ (by simp<;>omega) _))
 have hz2:=hb.size
 simp at hz2
 have x0:W2.cell? ⟨w.heap.size,0,none⟩=some (.slice a G.n cap):=(hb.cell (p:=⟨w.heap.size,0,none⟩) (by simp;omega)).trans (by simp[go_sem])
 have x1:∀o,o<6→W2.cell? ⟨w.heap.size+1,o,none⟩=some (.slice none 0 0):=fun o ho=>(hb.cell (p:=⟨w.heap.size+1,o,none⟩) (by simp)).trans (by
  obtain rfl | rfl | rfl | rfl | rfl | rfl:o=0∨o=1∨o=2∨o=3∨o=4∨o=5:=by omega
  all_goals simp[go_sem])
 have x2:∀o,W2.frozen? ⟨w.heap.size+1,o,none⟩=false:=fun o=>(hb.frozen (p:=⟨w.heap.size+1,o,none⟩) (by simp)).trans (by simp[go_sem])
 have H2:=Hd5 hCL hB2 x0 x1 x2
 clear hCL hB2 x0 x1 x2 hb
 have l1:=H2.out.1.u1.lt
 have l2:=H2.out.1.u2.lt
 have l3:=H2.out.1.u3.lt
 have l4:=H2.out.1.u4.lt
 have hlo:=H2.out.1.lo
 simp only[World.size_alloc] at hlo
 generalize hK2:((w.alloc (.cells #[.slice a G.n cap] 24)).alloc (.cells #[.slice none 0 0,.slice none 0 0,.slice none 0 0,.slice none 0 0,.slice none 0 0,.slice none 0 0] 54)).heap.size=K2 at *
 go_wp2_with fail
 refine (numbers_walk C 1 b1 (4*G.n) (zb5 G).r1 (by omega) _ H2.out.1.u1).mono ?_
 rintro e W3 ⟨dv,rfl,hdv,rv,hu,hg3⟩
 have c3:CL W3 K2 C b1 b2 b3 b4 G.n (.slice a G.n cap) (zb5 G):=H2.out.1.join1 hu hg3
 have s3:=hg3.size
 have H3:=Hd3 c3 rv hg3;clear c3 rv hu hg3
 go_wp2_with fail
 refine (numbers_walk C 2 b2 (16*G.n) (zb5 G).r2 (by omega) _ H3.out.1.u2).mono ?_
 rintro e W4 ⟨dd,rfl,hdd,rd,hu,hg4⟩
 have c4:CL W4 K2 C b1 b2 b3 b4 G.n (.slice a G.n cap) (zb5 G):=H3.out.1.join2 hu hg4
 have s4:=hg4.size
 have H4:=Hd3 c4 rd hg4;clear c4 rd hu hg4
 go_wp2_with fail
 refine (numbers_walk C 3 b3 (6*G.n) (zb5 G).r3 (by omega) _ H4.out.1.u3).mono ?_
 rintro e W5 ⟨de,rfl,hde,re,hu,hg5⟩
 have c5:CL W5 K2 C b1 b2 b3 b4 G.n (.slice a G.n cap) (zb5 G):=H4.out.1.join3 hu hg5
 have s5:=hg5.size
 have H5:=Hd3 c5 re hg5;clear c5 re hu hg5
 go_wp2_with fail
 refine (numbers_walk C 4 b4 (4*G.n) (zb5 G).r4 (by omega) _ H5.out.1.u4).mono ?_
 rintro e W6 ⟨df,rfl,hdf,rf,hu,hg6⟩
 have c6:CL W6 K2 C b1 b2 b3 b4 G.n (.slice a G.n cap) (zb5 G):=H5.out.1.join4 hu hg6
 have s6:=hg6.size
 have rv6:zb7 W6 dv (4*G.n) (fun i=>(vN G i:Nat)):=za3 (za3 (za3 H3.out.2.1 H4.out.2.2 (by simp;omega)) H5.out.2.2 (by simp;omega)) hg6 (by simp;omega)
 have rd6:zb7 W6 dd (16*G.n) (fun i=>(dN G i:Nat)):=za3 (za3 H4.out.2.1 H5.out.2.2 (by simp;omega)) hg6 (by simp;omega)
 have re6:zb7 W6 de (6*G.n) (fun i=>(eN G i:Nat)):=za3 H5.out.2.1 hg6 (by simp;omega)
 have rf6:zb7 W6 df (4*G.n) (fun i=>(fN G i:Nat)):=rf
 have cellk:∀b o v,b≠b1→b≠b2→b≠b3→b≠b4→W2.cell? ⟨b,o,none⟩=some v→W6.cell? ⟨b,o,none⟩=some v:=fun b o v h1 h2 h3 h4 h=>
  hg6.cell (H5.out.2.2.cell (H4.out.2.2.cell (H3.out.2.2.cell h (by simp;omega)) (by simp;omega)) (by simp;omega)) (by simp;omega)
 have x0:=cellk w.heap.size 0 _ (by omega) (by omega) (by omega) (by omega) H2.out.2.2.1
 have x1:∀o,o<6→W6.cell? ⟨w.heap.size+1,o,none⟩=some (.slice none 0 0):=fun o ho=>cellk _ o _ (by omega) (by omega) (by omega) (by omega) (H2.out.2.2.2.1 o ho)
 have x2:∀o,W6.frozen? ⟨w.heap.size+1,o,none⟩=false:=fun o=>((hg6.frozen_far ⟨w.heap.size+1,o,none⟩ (by show w.heap.size+1<_;omega) (by simp;omega)).trans ((H5.out.2.2.frozen_far ⟨w.heap.size+1,o,none⟩ (by show w.heap.size+1<_;omega) (by simp;omega)).trans ((H4.out.2.2.frozen_far ⟨w.heap.size+1,o,none⟩ (by show w.heap.size+1<_;omega) (by simp;omega)).trans (H3.out.2.2.frozen_far ⟨w.heap.size+1,o,none⟩ (by show w.heap.size+1<_;omega) (by simp;omega))))).trans (H2.out.2.2.2.2 o)
 have hB6:Below w.heap.size w W6:=zc8 (zc8 (zc8 (zc8 H2.out.2.1 H3.out.2.2 (by omega) (by omega)) H4.out.2.2 (by omega) (by omega)) H5.out.2.2 (by omega) (by omega)) hg6 (by omega) (by omega)
 have H6:=Hd9 c6 rv6 rd6 re6 rf6 x0 x1 x2 hB6
 clear c6 rv6 rd6 re6 rf6 x0 x1 x2 hB6 cellk H2 H3 H4 H5 hu hg6 rf l1 l2 l3 l4 G1 hK2
 have hmk3:=run_make_row' (P:=Try.prog) 35 3 (.int .i64 0) 8 und35 info3 rfl .i64 .i64 (nE G) (by omega) (by omega)
 have hmk4:=run_make_row' (P:=Try.prog) 51 4 (.bool false) 1 und51 info4 rfl .i64 .i64 (nE G) (by omega) (by omega)
 rw[show cnt (zb5 G).r1 (4*G.n)=nV G from rfl,show cnt (zb5 G).r3 (6*G.n)=nE G from rfl]
 go_wp2
 obtain⟨N4,hN4⟩:∃x,x=4*G.n:=⟨_,rfl⟩
 obtain⟨N6,hN6⟩:∃x,x=6*G.n:=⟨_,rfl⟩
 obtain⟨N16,hN16⟩:∃x,x=16*G.n:=⟨_,rfl⟩
 rw[←hN4,←hN6,←hN16]
 have HN:=Hd3 hN4 hN6 hN16
 clear hN4 hN6 hN16
 go_cut [12] from 52 to 56 (fun p wc=>∃S dB rB,p=.pointer (some ⟨S,0,none⟩)∧SK wc W6.heap.size S dB rB (nE G) q0 (fun _=>0) (fun _=>[]) (fun _=>false)∧Below W6.heap.size W6 wc)
 case first=>
  go_region
  all_goals (go_wp2_with fail;go_meet)
  all_goals first
   |(with_reducible exact⟨W6.heap.size,W6.heap.size+1,W6.heap.size+1+1,rfl,SK.fresh (al_0 _ _ _ _) (al_1 _ _ _ _) (al_2 _ _ _ _) (by omega),by (repeat' (first | assumption | exact Below.refl _ _ | refine za7 ?_ (by assumption) | refine zb2 ?_ _ | refine za5 ?_ | refine zb1 ?_ (by simp<;>omega) _))⟩)
   |(with_reducible exact⟨W6.heap.size,W6.heap.size+1+1,W6.heap.size+1,rfl,SK.fresh (al_0 _ _ _ _) (al_2 _ _ _ _) (al_1 _ _ _ _) (by omega),by (repeat' (first | assumption | exact Below.refl _ _ | refine za7 ?_ (by assumption) | refine zb2 ?_ _ | refine za5 ?_ | refine zb1 ?_ (by simp<;>omega) _))⟩)
   |(with_reducible exact⟨W6.heap.size+1,W6.heap.size,W6.heap.size+1+1,rfl,SK.fresh (al_1 _ _ _ _) (al_0 _ _ _ _) (al_2 _ _ _ _) (by omega),by (repeat' (first | assumption | exact Below.refl _ _ | refine za7 ?_ (by assumption) | refine zb2 ?_ _ | refine za5 ?_ | refine zb1 ?_ (by simp<;>omega) _))⟩)
   |(with_reducible exact⟨W6.heap.size+1,W6.heap.size+1+1,W6.heap.size,rfl,SK.fresh (al_1 _ _ _ _) (al_2 _ _ _ _) (al_0 _ _ _ _) (by omega),by (repeat' (first | assumption | exact Below.refl _ _ | refine za7 ?_ (by assumption) | refine zb2 ?_ _ | refine za5 ?_ | refine zb1 ?_ (by simp<;>omega) _))⟩)
   |(with_reducible exact⟨W6.heap.size+1+1,W6.heap.size,W6.heap.size+1,rfl,SK.fresh (al_2 _ _ _ _) (al_0 _ _ _ _) (al_1 _ _ _ _) (by omega),by (repeat' (first | assumption | exact Below.refl _ _ | refine za7 ?_ (by assumption) | refine zb2 ?_ _ | refine za5 ?_ | refine zb1 ?_ (by simp<;>omega) _))⟩)
   |(with_reducible exact⟨W6.heap.size+1+1,W6.heap.size+1,W6.heap.size,rfl,SK.fresh (al_2 _ _ _ _) (al_1 _ _ _ _) (al_0 _ _ _ _) (by omega),by (repeat' (first | assumption | exact Below.refl _ _ | refine za7 ?_ (by assumption) | refine zb2 ?_ _ | refine za5 ?_ | refine zb1 ?_ (by simp<;>omega) _))⟩)
 case rest=>
  obtain⟨S,dB,rB,rfl,hSK,hBc⟩:=hcut
  clear hmk3 hmk4
  have hKc:=hBc.size
  have y0:=(hBc.cell (p:=⟨w.heap.size,0,none⟩) (by show w.heap.size<_;omega)).trans H6.out.2.2.2.2.2.1
  have hSl:S<wc.heap.size:=za0 hSK.c3
  have hlS:=hSK.lo
  generalize hK:W6.heap.size=K at *
  have HS:=Hd2 hSK hBc;clear hSK hBc
  go_wp2
  go_loopw [60] (fun i wr=>∃(t:Nat) (q:Nat→Value),t≤G.n∧i=.int .i64 t∧SK wr K S dB rB (nE G) q (cT t) (xT G t) (revK G (6*t))∧Below K W6 wr) (fun i _=>G.n-(intOf i).toNat)
  case atStart=>exact⟨0,q0,by omega,rfl,HS.out.1.congr (fun o _=>by simp[cT]) (fun o ho=>by rcases ho with rfl | rfl | rfl | rfl<;>simp[xT,ints]) (fun i=>by simp[revK]),HS.out.2⟩
  case round=>
   clear HS y0
   obtain⟨t,q,ht,rfl,hK1,hB⟩:=hrel
   rcases Nat.lt_or_ge t G.n with htn | htn
   ·have HK:=Hd2 hK1 hB;clear hK1 hB
    go_wp2
    have v0:=HK.out.1.cc 0 (.inl rfl)
    have vf:=HK.out.1.fz 0
    have rv:∀i,i<4→wr.cell? ⟨dv,4*t+i,none⟩=some (.int .i64 (vN G (4*t+i):Nat)):=fun i hi=>(HK.out.2.cell (p:=⟨dv,4*t+i,none⟩) (by have:=H6.out.2.1.lt;show dv<K;omega)).trans (H6.out.2.1.cell (i:=4*t+i) (by omega))
    obtain⟨x1,hx1⟩:∃x,x=4*t:=⟨_,rfl⟩
    obtain⟨x2,hx2⟩:∃x,x=x1+4:=⟨_,rfl⟩
    obtain⟨hn4,hn6,hn16⟩:=HN.out
    have q1:IntKind.i64.wrap (4*(t:Int))=(x1:Int):=by rw[IntWalk.i64_in _ (by omega)];omega
    have q2:IntKind.i64.wrap ((x1:Int)+4)=(x2:Int):=by rw[IntWalk.i64_in _ (by omega)];omega
    rw[←hx1] at rv
    have e0:=rv 0 (by omega)
    have e1:=rv 1 (by omega)
    have e2:=rv 2 (by omega)
    have e3:=rv 3 (by omega)
    rw[Nat.add_zero] at e0
    have o1:x1≤x2:=by omega
    have o2:x2≤N4:=by omega
    have hne:¬N4=x1:=by omega
    have hpa:∀w,(Instr.arrayAt 84 (.slice (some ⟨dv,x1,none⟩) (x2-x1) (N4-x1))).run Try.prog w=.ok (.pointer (some ⟨dv,x1,none⟩)) w:=fun w=>run_arrayAt w 84 _ 4 _ _ _ und84 (by omega)
    have hys:xT G t 0++[.int .i64 (vN G x1:Nat),.int .i64 (vN G (x1+1):Nat),.int .i64 (vN G (x1+2):Nat),.int .i64 (vN G (x1+3):Nat)]=ints (vN G) (4*(t+1)):=by
     rw[hx1,show 4*(t+1)=4*t+4 by omega,ints_add];rfl
    have HX:=Hd3 hys hx1 hx2
    clear rv hx1 hx2 hn4 hn6 hn16 hys
    go_cut [] from 63 to 76 (fun wc=>∃q':Nat→Value,SK wc K S dB rB (nE G) q' (updO (cT t) 0 (t+1)) (updO (xT G t) 0 (ints (vN G) (4*(t+1)))) (revK G (6*t))∧Below K W6 wc)
    case first=>
     have v0a:=za4 v0
     have hga:wr.grownBy (wr.alloc (.cells #[.int .i64 (vN G x1:Nat),.int .i64 (vN G (x1+1):Nat),.int .i64 (vN G (x1+2):Nat),.int .i64 (vN G (x1+3):Nat)] 84)).drew none:=za2 (World.grownBy_alloc wr _ none) (zb0 _ _)
     have hH:(wr.alloc (.cells #[.int .i64 (vN G x1:Nat),.int .i64 (vN G (x1+1):Nat),.int .i64 (vN G (x1+2):Nat),.int .i64 (vN G (x1+3):Nat)] 84)).drew.heap[wr.heap.size]?=some (.cells #[.int .i64 (vN G x1:Nat),.int .i64 (vN G (x1+1):Nat),.int .i64 (vN G (x1+2):Nat),.int .i64 (vN G (x1+3):Nat)] 84 (0,0)):=(MapKept.heap_alloc wr _).1
     have hSq:some S≠(q 0).ownBlock:=fun e=>(HK.out.1.ne 0 (.inl rfl) S e.symm).1 rfl
     have hk:=HK.out.1.kept hga
     have hKr:K≤wr.heap.size:=by have:=HK.out.2.size;omega
     have HO:=Hd3 hga hH hk;clear hga hH hk
     obtain⟨i0,hi0,hz0,hz1,hz2⟩:=info_parts info84
     go_region_law (first|(refine step_append_lies _ rfl (.tmp 64) (.tmp 74) 49 rfl K 84 i0 _ 4 32 und49 hi0 hz0 hz1 hz2 rfl (by omega) (q 0) t _ rfl (HO.out.2.2.own 0 (.inl rfl)) ⟨wr.heap.size,0,none⟩ 1 1 [.int .i64 (vN G x1:Nat),.int .i64 (vN G (x1+1):Nat),.int .i64 (vN G (x1+2):Nat),.int .i64 (vN G (x1+3):Nat)] rfl rfl (World.news_of_block HO.out.2.1) (by simp[Value.oneCell']) (by omega) (by unfold maxLen;omega) (by omega) (by simp;omega) (wr.heap.size+1) (by simp) ?_;intro g cap w1 h1 h2 h3 h4;have c1:=h2.cell (HO.out.2.2.cc 0 (.inl rfl)) hSq;have f1:=(h2.frozen_far ⟨S,0,none⟩ (za0 (HO.out.2.2.cc 0 (.inl rfl))) hSq).trans (HO.out.2.2.fz 0);have HA:=Hd3 h1 h2 h3;clear h1 h2 h3 h4))
     all_goals (go_wp2_with fail;go_meet)
     all_goals exact⟨_,SK.push (m:=t+1) HK.out.1 (.inl rfl) rfl HO.out.1 (by rw[←HX.out.1];exact HA.out.1) HA.out.2.1 (HA.out.2.2.imp id (fun e=>by simpa using e)),below_push hK HK.out.2 HO.out.1 HA.out.2.1 (by omega) (fun k hk=>((HK.out.1.own 0 (.inl rfl)).lt k hk).1)⟩
    case rest=>
     obtain⟨q,hK1,hB⟩:=hcut
     generalize wc=wr at *
     have HK:=Hd2 hK1 hB
     clear hK1 hB HX v0 vf q1 q2 o1 o2 hne hpa
     clear e0
     clear e1
     clear e2
     clear e3
     go_wp2
     have v0:=HK.out.1.cc 1 (.inr (.inl rfl))
     have vf:=HK.out.1.fz 1
     have rv:∀i,i<6→wr.cell? ⟨de,6*t+i,none⟩=some (.int .i64 (eN G (6*t+i):Nat)):=fun i hi=>(HK.out.2.cell (p:=⟨de,6*t+i,none⟩) (by have:=H6.out.2.2.2.1.lt;show de<K;omega)).trans (H6.out.2.2.2.1.cell (i:=6*t+i) (by omega))
     obtain⟨x1,hx1⟩:∃x,x=6*t:=⟨_,rfl⟩
     obtain⟨x2,hx2⟩:∃x,x=x1+6:=⟨_,rfl⟩
     obtain⟨hn4,hn6,hn16⟩:=HN.out
     have q1:IntKind.i64.wrap (6*(t:Int))=(x1:Int):=by rw[IntWalk.i64_in _ (by omega)];omega
     have q2:IntKind.i64.wrap ((x1:Int)+6)=(x2:Int):=by rw[IntWalk.i64_in _ (by omega)];omega
     rw[←hx1] at rv
     have e0:=rv 0 (by omega)
     have e1:=rv 1 (by omega)
     have e2:=rv 2 (by omega)
     have e3:=rv 3 (by omega)
     have e4:=rv 4 (by omega)
     have e5:=rv 5 (by omega)
     rw[Nat.add_zero] at e0
     have o1:x1≤x2:=by omega
     have o2:x2≤N6:=by omega
     have hne:¬N6=x1:=by omega
     have hpa:∀w,(Instr.arrayAt 162 (.slice (some ⟨de,x1,none⟩) (x2-x1) (N6-x1))).run Try.prog w=.ok (.pointer (some ⟨de,x1,none⟩)) w:=fun w=>run_arrayAt w 162 _ 6 _ _ _ und162 (by omega)
     have hys:xT G t 1++[.int .i64 (eN G x1:Nat),.int .i64 (eN G (x1+1):Nat),.int .i64 (eN G (x1+2):Nat),.int .i64 (eN G (x1+3):Nat),.int .i64 (eN G (x1+4):Nat),.int .i64 (eN G (x1+5):Nat)]=ints (eN G) (6*(t+1)):=by
      rw[hx1,show 6*(t+1)=6*t+6 by omega,ints_add];rfl
     have HX:=Hd3 hys hx1 hx2
     clear rv hx1 hx2 hn4 hn6 hn16 hys
     go_cut [] from 77 to 90 (fun wc=>∃q':Nat→Value,SK wc K S dB rB (nE G) q' (updO (updO (cT t) 0 (t+1)) 1 (t+1)) (updO (updO (xT G t) 0 (ints (vN G) (4*(t+1)))) 1 (ints (eN G) (6*(t+1)))) (revK G (6*t))∧Below K W6 wc)
     case first=>
      have v0a:=za4 v0
      have hga:wr.grownBy (wr.alloc (.cells #[.int .i64 (eN G x1:Nat),.int .i64 (eN G (x1+1):Nat),.int .i64 (eN G (x1+2):Nat),.int .i64 (eN G (x1+3):Nat),.int .i64 (eN G (x1+4):Nat),.int .i64 (eN G (x1+5):Nat)] 162)).drew none:=za2 (World.grownBy_alloc wr _ none) (zb0 _ _)
      have hH:(wr.alloc (.cells #[.int .i64 (eN G x1:Nat),.int .i64 (eN G (x1+1):Nat),.int .i64 (eN G (x1+2):Nat),.int .i64 (eN G (x1+3):Nat),.int .i64 (eN G (x1+4):Nat),.int .i64 (eN G (x1+5):Nat)] 162)).drew.heap[wr.heap.size]?=some (.cells #[.int .i64 (eN G x1:Nat),.int .i64 (eN G (x1+1):Nat),.int .i64 (eN G (x1+2):Nat),.int .i64 (eN G (x1+3):Nat),.int .i64 (eN G (x1+4):Nat),.int .i64 (eN G (x1+5):Nat)] 162 (0,0)):=(MapKept.heap_alloc wr _).1
      have hSq:some S≠(q 1).ownBlock:=fun e=>(HK.out.1.ne 1 (.inr (.inl rfl)) S e.symm).1 rfl
      have hk:=HK.out.1.kept hga
      have hKr:K≤wr.heap.size:=by have:=HK.out.2.size;omega
      have HO:=Hd3 hga hH hk;clear hga hH hk
      obtain⟨i0,hi0,hz0,hz1,hz2⟩:=info_parts info162
      go_region_law (first|(refine step_append_lies _ rfl (.tmp 78) (.tmp 88) 50 rfl K 162 i0 _ 6 48 und50 hi0 hz0 hz1 hz2 rfl (by omega) (q 1) t _ rfl (HO.out.2.2.own 1 (.inr (.inl rfl))) ⟨wr.heap.size,0,none⟩ 1 1 [.int .i64 (eN G x1:Nat),.int .i64 (eN G (x1+1):Nat),.int .i64 (eN G (x1+2):Nat),.int .i64 (eN G (x1+3):Nat),.int .i64 (eN G (x1+4):Nat),.int .i64 (eN G (x1+5):Nat)] rfl rfl (World.news_of_block HO.out.2.1) (by simp[Value.oneCell']) (by omega) (by unfold maxLen;omega) (by omega) (by simp;omega) (wr.heap.size+1) (by simp) ?_;intro g cap w1 h1 h2 h3 h4;have c1:=h2.cell (HO.out.2.2.cc 1 (.inr (.inl rfl))) hSq;have f1:=(h2.frozen_far ⟨S,1,none⟩ (za0 (HO.out.2.2.cc 1 (.inr (.inl rfl)))) hSq).trans (HO.out.2.2.fz 1);have HA:=Hd3 h1 h2 h3;clear h1 h2 h3 h4))
      all_goals (go_wp2_with fail;go_meet)
      all_goals exact⟨_,SK.push (m:=t+1) HK.out.1 (.inr (.inl rfl)) rfl HO.out.1 (by rw[←HX.out.1];exact HA.out.1) HA.out.2.1 (HA.out.2.2.imp id (fun e=>by simpa using e)),below_push hK HK.out.2 HO.out.1 HA.out.2.1 (by omega) (fun k hk=>((HK.out.1.own 1 (.inr (.inl rfl))).lt k hk).1)⟩
     case rest=>
      obtain⟨q,hK1,hB⟩:=hcut
      generalize wc=wr at *
      have HK:=Hd2 hK1 hB
      clear hK1 hB HX v0 vf q1 q2 o1 o2 hne hpa
      clear e0
      clear e1
      clear e2
      clear e3
      clear e4
      clear e5
      go_wp2
      have v0:=HK.out.1.cc 2 (.inr (.inr (.inl rfl)))
      have vf:=HK.out.1.fz 2
      have rv:∀i,i<4→wr.cell? ⟨df,4*t+i,none⟩=some (.int .i64 (fN G (4*t+i):Nat)):=fun i hi=>(HK.out.2.cell (p:=⟨df,4*t+i,none⟩) (by have:=H6.out.2.2.2.2.1.lt;show df<K;omega)).trans (H6.out.2.2.2.2.1.cell (i:=4*t+i) (by omega))
      obtain⟨x1,hx1⟩:∃x,x=4*t:=⟨_,rfl⟩
      obtain⟨x2,hx2⟩:∃x,x=x1+4:=⟨_,rfl⟩
      obtain⟨hn4,hn6,hn16⟩:=HN.out
      have q1:IntKind.i64.wrap (4*(t:Int))=(x1:Int):=by rw[IntWalk.i64_in _ (by omega)];omega
      have q2:IntKind.i64.wrap ((x1:Int)+4)=(x2:Int):=by rw[IntWalk.i64_in _ (by omega)];omega
      rw[←hx1] at rv
      have e0:=rv 0 (by omega)
      have e1:=rv 1 (by omega)
      have e2:=rv 2 (by omega)
      have e3:=rv 3 (by omega)
      rw[Nat.add_zero] at e0
      have o1:x1≤x2:=by omega
      have o2:x2≤N4:=by omega
      have hne:¬N4=x1:=by omega
      have hpa:∀w,(Instr.arrayAt 84 (.slice (some ⟨df,x1,none⟩) (x2-x1) (N4-x1))).run Try.prog w=.ok (.pointer (some ⟨df,x1,none⟩)) w:=fun w=>run_arrayAt w 84 _ 4 _ _ _ und84 (by omega)
      have hys:xT G t 2++[.int .i64 (fN G x1:Nat),.int .i64 (fN G (x1+1):Nat),.int .i64 (fN G (x1+2):Nat),.int .i64 (fN G (x1+3):Nat)]=ints (fN G) (4*(t+1)):=by
       rw[hx1,show 4*(t+1)=4*t+4 by omega,ints_add];rfl
      have HX:=Hd3 hys hx1 hx2
      clear rv hx1 hx2 hn4 hn6 hn16 hys
      go_cut [] from 91 to 104 (fun wc=>∃q':Nat→Value,SK wc K S dB rB (nE G) q' (updO (updO (updO (cT t) 0 (t+1)) 1 (t+1)) 2 (t+1)) (updO (updO (updO (xT G t) 0 (ints (vN G) (4*(t+1)))) 1 (ints (eN G) (6*(t+1)))) 2 (ints (fN G) (4*(t+1)))) (revK G (6*t))∧Below K W6 wc)
      case first=>
       have v0a:=za4 v0
       have hga:wr.grownBy (wr.alloc (.cells #[.int .i64 (fN G x1:Nat),.int .i64 (fN G (x1+1):Nat),.int .i64 (fN G (x1+2):Nat),.int .i64 (fN G (x1+3):Nat)] 84)).drew none:=za2 (World.grownBy_alloc wr _ none) (zb0 _ _)
       have hH:(wr.alloc (.cells #[.int .i64 (fN G x1:Nat),.int .i64 (fN G (x1+1):Nat),.int .i64 (fN G (x1+2):Nat),.int .i64 (fN G (x1+3):Nat)] 84)).drew.heap[wr.heap.size]?=some (.cells #[.int .i64 (fN G x1:Nat),.int .i64 (fN G (x1+1):Nat),.int .i64 (fN G (x1+2):Nat),.int .i64 (fN G (x1+3):Nat)] 84 (0,0)):=(MapKept.heap_alloc wr _).1
       have hSq:some S≠(q 2).ownBlock:=fun e=>(HK.out.1.ne 2 (.inr (.inr (.inl rfl))) S e.symm).1 rfl
       have hk:=HK.out.1.kept hga
       have hKr:K≤wr.heap.size:=by have:=HK.out.2.size;omega
       have HO:=Hd3 hga hH hk;clear hga hH hk
       obtain⟨i0,hi0,hz0,hz1,hz2⟩:=info_parts info84
       go_region_law (first|(refine step_append_lies _ rfl (.tmp 92) (.tmp 102) 49 rfl K 84 i0 _ 4 32 und49 hi0 hz0 hz1 hz2 rfl (by omega) (q 2) t _ rfl (HO.out.2.2.own 2 (.inr (.inr (.inl rfl)))) ⟨wr.heap.size,0,none⟩ 1 1 [.int .i64 (fN G x1:Nat),.int .i64 (fN G (x1+1):Nat),.int .i64 (fN G (x1+2):Nat),.int .i64 (fN G (x1+3):Nat)] rfl rfl (World.news_of_block HO.out.2.1) (by simp[Value.oneCell']) (by omega) (by unfold maxLen;omega) (by omega) (by simp;omega) (wr.heap.size+1) (by simp) ?_;intro g cap w1 h1 h2 h3 h4;have c1:=h2.cell (HO.out.2.2.cc 2 (.inr (.inr (.inl rfl)))) hSq;have f1:=(h2.frozen_far ⟨S,2,none⟩ (za0 (HO.out.2.2.cc 2 (.inr (.inr (.inl rfl))))) hSq).trans (HO.out.2.2.fz 2);have HA:=Hd3 h1 h2 h3;clear h1 h2 h3 h4))
       all_goals (go_wp2_with fail;go_meet)
       all_goals exact⟨_,SK.push (m:=t+1) HK.out.1 (.inr (.inr (.inl rfl))) rfl HO.out.1 (by rw[←HX.out.1];exact HA.out.1) HA.out.2.1 (HA.out.2.2.imp id (fun e=>by simpa using e)),below_push hK HK.out.2 HO.out.1 HA.out.2.1 (by omega) (fun k hk=>((HK.out.1.own 2 (.inr (.inr (.inl rfl)))).lt k hk).1)⟩
      case rest=>
       obtain⟨q,hK1,hB⟩:=hcut
       generalize wc=wr at *
       have HK:=Hd2 hK1 hB
       clear hK1 hB HX v0 vf q1 q2 o1 o2 hne hpa
       clear e0
       clear e1
       clear e2
       clear e3
       skip
       have hK2:SK wr K S dB rB (nE G) q (cT (t+1)) (xT G (t+1)) (revK G (6*t+0)):=HK.out.1.congr (fun o ho=>by rcases ho with rfl | rfl | rfl | rfl<;>simp[updO,cT]) (fun o ho=>by rcases ho with rfl | rfl | rfl | rfl<;>simp[updO,xT]) (fun i=>rfl)
       have HK3:=Hd2 hK2 HK.out.2;clear hK2 HK
       go_wp2_with (go_at_call 106;with_reducible refine (pairs_walk _).mono ?_;rintro e W7 ⟨rfl,hb⟩)
       have hB7:Below K W6 W7:=HK3.out.2.trans (hb.mono (by have:=HK3.out.2.size;omega))
       have hK7:=HK3.out.1.kept (za6 hb (Nat.le_refl _) none)
       have H7:=Hd2 hK7 hB7;clear hK7 hB7 hb HK3
       go_loopw [106] (fun i wr=>∃k:Nat,k≤6∧i=.int .i64 k∧SK wr K S dB rB (nE G) q (cT (t+1)) (xT G (t+1)) (revK G (6*t+k))∧Below K W6 wr) (fun i _=>6-(intOf i).toNat)
       case atStart=>exact⟨0,by omega,rfl,H7.out.1,H7.out.2⟩
       case round=>
        clear H7
        obtain⟨k,hk,rfl,hK1,hB⟩:=hrel
        rcases Nat.lt_or_ge k 6 with hk6 | hk6
        ·have hix:=pairs_index k hk6
         have k60:0≤(k:Int):=by omega
         have k66:(k:Int)<6:=by omega
         have hA4:=pA_lt k
         have hB4:=pB_lt k
         obtain⟨x1,hx1⟩:∃x,x=6*t:=⟨_,rfl⟩
         obtain⟨x2,hx2⟩:∃x,x=x1+k:=⟨_,rfl⟩
         obtain⟨hn4,hn6,hn16⟩:=HN.out
         have q1:IntKind.i64.wrap (6*(t:Int))=(x1:Int):=by rw[IntWalk.i64_in _ (by omega)];omega
         have q2:IntKind.i64.wrap ((x1:Int)+(k:Int))=(x2:Int):=by rw[IntWalk.i64_in _ (by omega)];omega
         have hx2m:x2<N6:=by omega
         have hde:wr.cell? ⟨de,x2,none⟩=some (.int .i64 (eN G x2:Nat)):=(hB.cell (p:=⟨de,x2,none⟩) (by have:=H6.out.2.2.2.1.lt;show de<K;omega)).trans (H6.out.2.2.2.1.cell (i:=x2) (by omega))
         have hcE:eN G x2<nE G:=eN_lt H6.out.1 (by omega)
         have HV:=Hd2 hx1 hx2
         obtain⟨c,hc⟩:∃c,c=eN G x2:=⟨_,rfl⟩
         rw[←hc] at hde hcE
         obtain⟨gd,hd⟩:=hK1.dr
         have hdc:=hd.cell hcE
         have hdf:=hd.frozen c
         obtain⟨sz,hsze⟩:∃sz,sz=nE G:=⟨_,rfl⟩
         have c3:=hK1.c3
         have c4:=hK1.c4
         have hrc:=hK1.rr.cell hcE
         have hrf:=hK1.rr.frozen c
         rw[←hsze] at hcE c3 c4
         obtain⟨hl1,hl2,hl3,hl4,hl5,hl6⟩:=hK1.lo
         have HK:=Hd4 hK1 hB hc hsze
         have hdel:de<K:=by have:=H6.out.2.2.2.1.lt;omega
         have hddl:dd<K:=by have:=H6.out.2.2.1.lt;omega
         have hKr:K≤wr.heap.size:=by have:=hB.size;omega
         clear hK1 hB hd hx1 hx2 hn4 hn6 hn16 hc hsze
         generalize gd c=D0 at *
         generalize hPA:pA k=PA at *
         generalize hPB:pB k=PB at *
         have HP:=Hd2 hPA hPB;clear hPA hPB
         have hdea:=za4 hde
         have c3a:=za4 c3
         have hdca:=za4 hdc
         have hdfa:∀o,(wr.alloc o).frozen? ⟨dB,c,none⟩=false:=fun o=>(World.grownBy.frozen_far (World.grownBy_alloc wr o none) ⟨dB,c,none⟩ (za0 hdc) (by simp)).trans hdf
         have c00:0≤(c:Int):=by omega
         have c0s:(c:Int)<(sz:Int):=by omega
         go_wp2
         refine zb3 fun W9 hW=>?_
         have h9:SK W9 K S dB rB (nE G) q (cT (t+1)) (xT G (t+1)) (revK G (6*t+k))∧Below K W6 W9∧W9.cell? ⟨wr.heap.size,0,none⟩=some (.int .i64 (PA:Int))∧W9.cell? ⟨wr.heap.size,1,none⟩=some (.int .i64 (PB:Int))∧wr.heap.size<W9.heap.size:=by
          rw[hW]
          have ne0:wr.heap.size≠dB:=by have:=za0 hdc;simp only at this;omega
          refine⟨(HK.out.1.kept (World.grownBy_alloc wr _ none)).degree c _,(HK.out.2.1.alloc hKr _).setCell hl2 _,?_,?_,by simp⟩
          ·exact (za1 _ dB c _).cell (a:=⟨wr.heap.size,0,none⟩) (by simp[go_sem]) (by simp;exact ne0)
          ·exact (za1 _ dB c _).cell (a:=⟨wr.heap.size,1,none⟩) (by simp[go_sem]) (by simp;exact ne0)
         obtain⟨hK9,hB9,a0,a1,hlt9⟩:=h9
         clear hW hde hdea c3a hdca hdfa hdc hdf c3 c4 hrc hrf hix
         obtain⟨y1,hy1⟩:∃x,x=16*t:=⟨_,rfl⟩
         obtain⟨y2,hy2⟩:∃x,x=4*PA:=⟨_,rfl⟩
         obtain⟨y3,hy3⟩:∃x,x=y1+y2:=⟨_,rfl⟩
         obtain⟨y4,hy4⟩:∃x,x=y3+PB:=⟨_,rfl⟩
         obtain⟨z2,hz2'⟩:∃x,x=4*PB:=⟨_,rfl⟩
         obtain⟨z3,hz3⟩:∃x,x=y1+z2:=⟨_,rfl⟩
         obtain⟨z4,hz4⟩:∃x,x=z3+PA:=⟨_,rfl⟩
         obtain⟨v1,v2⟩:=HV.out
         obtain⟨hn4,hn6,hn16⟩:=HN.out
         have r1:IntKind.i64.wrap (16*(t:Int))=(y1:Int):=by rw[IntWalk.i64_in _ (by omega)];omega
         have r2:IntKind.i64.wrap (4*(PA:Int))=(y2:Int):=by rw[IntWalk.i64_in _ (by omega)];omega
         have r3:IntKind.i64.wrap ((y1:Int)+(y2:Int))=(y3:Int):=by rw[IntWalk.i64_in _ (by omega)];omega
         have r4:IntKind.i64.wrap ((y3:Int)+(PB:Int))=(y4:Int):=by rw[IntWalk.i64_in _ (by omega)];omega
         have r5:IntKind.i64.wrap (4*(PB:Int))=(z2:Int):=by rw[IntWalk.i64_in _ (by omega)];omega
         have r6:IntKind.i64.wrap ((y1:Int)+(z2:Int))=(z3:Int):=by rw[IntWalk.i64_in _ (by omega)];omega
         have r7:IntKind.i64.wrap ((z3:Int)+(PA:Int))=(z4:Int):=by rw[IntWalk.i64_in _ (by omega)];omega
         have y4m:y4<N16:=by omega
         have z4m:z4<N16:=by omega
         have d4:W9.cell? ⟨dd,y4,none⟩=some (.int .i64 (dN G y4:Nat)):=(hB9.cell (p:=⟨dd,y4,none⟩) hddl).trans (H6.out.2.2.1.cell (i:=y4) (by omega))
         have d5:W9.cell? ⟨dd,z4,none⟩=some (.int .i64 (dN G z4:Nat)):=(hB9.cell (p:=⟨dd,z4,none⟩) hddl).trans (H6.out.2.2.1.cell (i:=z4) (by omega))
         have hrv:rv1 G (6*t+k)=(dN G y4==dN G z4):=by
          have e1:(6*t+k) / 6=t:=by omega
          have e2:(6*t+k) % 6=k:=by omega
          rw[rv1,e1,e2,HP.out.1,HP.out.2,show 16*t+4*PA+PB=y4 by omega,show 16*t+4*PB+PA=z4 by omega]
         have hcx:c=eN G (6*t+k):=by rw[HK.out.2.2.1,show x2=6*t+k by omega]
         have hrk:=hK9.rr.cell (i:=c) (by have:=HK.out.2.2.2;omega)
         have hrf:=hK9.rr.frozen c
         have c4:=hK9.c4
         rw[←HK.out.2.2.2] at c4
         have H9:=Hd4 hK9 hB9 hrv hcx
         clear hK9 hB9 hrv hcx hy1 hy2 hy3 hy4 hz2' hz3 hz4 v1 v2 hn4 hn6 hn16 q1 q2
         generalize dN G y4=D1 at *
         generalize dN G z4=D2 at *
         generalize revK G (6*t+k) c=RV at *
         by_cases hD:D1=D2
         ·have hDq:=zd0 hD
          have HH:=Lib.hid (show (D1==D2)=true by simpa using hD)
          clear hD
          go_still (by kernel_rfl)
          go_wp2
          go_roundw
          case rel=>
           refine⟨k+1,by omega,rfl,?_,(za5 H9.out.2.1).setCell hl3 _⟩
           have hh:=HH.out
           refine (SK.reverse (W:=W9.drew) (H9.out.1.kept (zb0 _ _)) c).congr (fun _ _=>rfl) (fun _ _=>rfl) (fun i=>?_)
           show _=revK G ((6*t+k)+1) i
           simp only[revK,H9.out.2.2.1,hh,if_true,←H9.out.2.2.2]
          case measure=>simp[intOf];omega
         ·have hDq:=zc4 hD
          have HH:=Lib.hid (show (D1==D2)=false by simpa using hD)
          clear hD
          go_still (by kernel_rfl)
          go_wp2
          go_roundw
          case rel=>
           refine⟨k+1,by omega,rfl,?_,za5 H9.out.2.1⟩
           have hh:=HH.out
           refine SK.congr (W:=W9.drew) (H9.out.1.kept (zb0 _ _)) (fun _ _=>rfl) (fun _ _=>rfl) (fun i=>?_)
           show _=revK G ((6*t+k)+1) i
           simp only[revK,H9.out.2.2.1,hh,Bool.false_eq_true,if_false]
          case measure=>simp[intOf];omega
        ·obtain rfl:k=6:=by omega
         have HK:=Hd2 hK1 hB;clear hK1 hB
         go_wp2
         go_roundw
         case rel=>exact⟨t+1,q,by omega,rfl,HK.out.1,HK.out.2⟩
         case measure=>simp[intOf];omega
   ·obtain rfl:t=G.n:=by omega
    have HK:=Hd2 hK1 hB;clear hK1 hB
    go_wp2
    have H8:=Lib.hid (show SK wr K S dB rB (nE G) q (updO (cT G.n) 5 0) (updO (xT G G.n) 5 []) (revK G (6*G.n))∧Below K W6 wr from⟨HK.out.1.congr (fun o ho=>by rcases ho with rfl | rfl | rfl | rfl<;>simp[updO,cT]) (fun o ho=>by rcases ho with rfl | rfl | rfl | rfl<;>simp[updO,xT]) (fun _=>rfl),HK.out.2⟩)
    clear HK
    go_loopw [156] (fun i wr=>∃(k:Nat) (q:Nat→Value) (x5:List Value),k≤nV G∧i=.int .i64 k∧SK wr K S dB rB (nE G) q (updO (cT G.n) 5 k) (updO (xT G G.n) 5 x5) (revK G (6*G.n))∧Below K W6 wr) (fun i _=>nV G-(intOf i).toNat)
    case atStart=>exact⟨0,q,[],by omega,rfl,H8.out.1,H8.out.2⟩
    case round=>
     clear H8
     obtain⟨k,q,x5,hk,rfl,hK1,hB⟩:=hrel
     rcases Nat.lt_or_ge k (nV G) with hkn | hkn
     ·have c5:=hK1.cc 5 (.inr (.inr (.inr rfl)))
      have f5:=hK1.fz 5
      have hcl:wr.cell? ⟨C,0,none⟩=some (.slice a G.n cap):=(hB.cell (p:=⟨C,0,none⟩) (by have:=H6.out.1.u1.lt;show C<K;omega)).trans H6.out.1.gl
      have hrv:zb7 wr.drew dv (4*G.n) (fun i=>(vN G i:Int)):=za3 (za3 H6.out.2.1 (za6 hB (by omega) none) (by simp)) (zb0 _ _) (row:=none) (by simp)
      have hrd:zb7 wr.drew dd (16*G.n) (fun i=>((if i<16*G.n then dN G i else 0:Nat):Int)):=(show zb7 wr.drew dd (16*G.n) (fun i=>(dN G i:Int)) from za3 (za3 H6.out.2.2.1 (za6 hB (by omega) none) (by simp)) (zb0 _ _) (row:=none) (by simp)).congr (fun i hi=>by simp[hi])
      have hdb:∀i,(if i<16*G.n then dN G i else 0)<9223372036854775808:=fun i=>by
       split
       ·have:=zg7 (zb5 G).r2 ((zb5 G).r2 i)
        have:=H6.out.1.u2.rfacts.1 i (by assumption)
        unfold dN;omega
       ·omega
      have L1:=link_walk G.n cap a C dv (fun i=>(vN G i:Int)) (k:Int) hn wr.drew hcl hrv
      have hKS:∀kk∈ze8 (fun i=>(vN G i:Int)) (k:Int) (4*G.n),kk<4*G.n:=fun kk h=>linkKs_not h
      have hKL:(ze8 (fun i=>(vN G i:Int)) (k:Int) (4*G.n)).length≤4000:=Nat.le_trans (linkKs_len _ _ _) (by omega)
      have hKr:K≤wr.heap.size:=by have:=hB.size;omega
      have hwK:w.heap.size≤K:=by omega
      have hBw0:Below w.heap.size w wr:=H6.out.2.2.2.2.2.2.2.2.trans (hB.mono hwK)
      have L2:∀W8 L lv mb,LK W8 wr.drew.heap.size L lv mb (.slice a G.n cap) (ze8 (fun i=>(vN G i:Int)) (k:Int) (4*G.n))→Below wr.drew.heap.size wr.drew W8→_:=fun W8 L lv mb hLK hb8=>
       describe_walk G wr.drew.heap.size L lv mb (.slice a G.n cap) _ hKS dd _ hdb W8 w.heap.size (by have:=hb8.size;simp only[World.size_drew] at this;omega) (HG.out.below ((za5 hBw0).trans (hb8.mono (by simp only[World.size_drew];omega)))) HOK.out hLK hKL (za3 hrd (za6 hb8 (Nat.le_refl _) none) (by simp))
      obtain⟨hn4,hn6,hn16⟩:=HN.out
      rw[←hn4] at L1
      rw[←hn4,←hn16] at L2
      have LL:=Hd2 L1 L2
      have HK:=Hd2 hK1 hB
      have hSq:some S≠(q 5).ownBlock:=fun e=>(hK1.ne 5 (.inr (.inr (.inr rfl))) S e.symm).1 rfl
      clear hBw0 hK1 hB L1 L2 hcl hrv hrd hdb hKS hKL hn4 hn6 hn16
      obtain⟨i0,hi0,hz0,hz1,hz2⟩:=info_parts info164
      go_wp2
      go_region_law (first
       |(go_simp;go_at_call 107;(with_reducible refine LL.out.1.mono ?_);rintro e W8 ⟨L,lv,mb,rfl,hLK,hb8⟩;have s8:=Lib.hid ((HK.out.1.kept (zb0 _ _)).kept (za6 hb8 (Nat.le_refl _) none));have D8:=Hd2 (LL.out.2 W8 L lv mb hLK hb8) hb8;have c58:=s8.out.cc 5 (.inr (.inr (.inr rfl)));clear hLK hb8)
       |(go_simp;go_at_call 108;(with_reducible refine D8.out.1.mono ?_);rintro e W9 ⟨⟨d0,d1,d2,d3,d4,d5,rfl⟩,hb9⟩;have s9:=Lib.hid (s8.out.kept (za6 hb9 (Nat.le_refl _) none));have B9:Below K W6 W9:=(za5 HK.out.2).trans ((D8.out.2.trans (hb9.mono D8.out.2.size)).mono (by simp;omega));have c59:=s9.out.cc 5 (.inr (.inr (.inr rfl)));have c59a:=za4 c59;have hK9:K≤W9.heap.size:=(by have:=B9.size;omega);have HB9:=Lib.hid B9;clear hb9 B9)
       |(refine step_append_lies _ rfl (.tmp 160) (.tmp 167) 52 rfl K 164 i0 _ 6 40 und52 hi0 hz0 hz1 hz2 rfl (by omega) (q 5) k _ rfl ((s9.out.kept (World.grownBy_alloc W9 (.cells #[.int .i64 d0,.int .i64 d1,.int .i64 d2,.int .i64 d3,.bool d4,.bool d5] 164) none)).own 5 (.inr (.inr (.inr rfl)))) ⟨W9.heap.size,0,none⟩ 1 1 [.int .i64 d0,.int .i64 d1,.int .i64 d2,.int .i64 d3,.bool d4,.bool d5] rfl rfl (World.news_of_block (cs:=#[.int .i64 d0,.int .i64 d1,.int .i64 d2,.int .i64 d3,.bool d4,.bool d5]) (MapKept.heap_alloc W9 _).1) (by simp[Value.oneCell']) (by omega) (by unfold maxLen;omega) (by omega) (by simp;omega) (W9.heap.size+1) (by simp) ?_;intro g cp w1 h1 h2 h3 h4;have c1:=h2.cell ((s9.out.kept (World.grownBy_alloc W9 _ none)).cc 5 (.inr (.inr (.inr rfl)))) hSq;have f1:=(h2.frozen_far ⟨S,5,none⟩ (za0 ((s9.out.kept (World.grownBy_alloc W9 _ none)).cc 5 (.inr (.inr (.inr rfl))))) hSq).trans ((s9.out.kept (World.grownBy_alloc W9 _ none)).fz 5);have HA:=Hd3 h1 h2 h3;clear h1 h2 h3 h4))
      all_goals go_wp2_with fail
      all_goals exact⟨⟨k+1,_,_,by omega,rfl,(SK.push (m:=k+1) s9.out (.inr (.inr (.inr rfl))) rfl (World.grownBy_alloc W9 _ none) HA.out.1 HA.out.2.1 (HA.out.2.2.imp id (fun e=>by simpa using e))).congr (fun o _=>by rw[updO_updO]) (fun o _=>by rw[updO_updO]) (fun _=>rfl),below_push hK HB9.out (World.grownBy_alloc W9 _ none) HA.out.2.1 (by omega) (fun k hk=>((s9.out.own 5 (.inr (.inr (.inr rfl)))).lt k hk).1)⟩,by simp[intOf];omega⟩
     ·obtain rfl:k=nV G:=by omega
      obtain⟨g0,p0,e0⟩:∃ga cp,q 0=.slice ga G.n cp:=za8 (hK1.own 0 (.inl rfl))
      obtain⟨g1,p1,e1⟩:∃ga cp,q 1=.slice ga G.n cp:=za8 (hK1.own 1 (.inr (.inl rfl)))
      obtain⟨g2,p2,e2⟩:∃ga cp,q 2=.slice ga G.n cp:=za8 (hK1.own 2 (.inr (.inr (.inl rfl))))
      obtain⟨g5,p5,e5⟩:∃ga cp,q 5=.slice ga (nV G) cp:=za8 (hK1.own 5 (.inr (.inr (.inr rfl))))
      have c0:=hK1.cc 0 (.inl rfl)
      have c1:=hK1.cc 1 (.inr (.inl rfl))
      have c2:=hK1.cc 2 (.inr (.inr (.inl rfl)))
      have c5:=hK1.cc 5 (.inr (.inr (.inr rfl)))
      rw[e0] at c0
      rw[e1] at c1
      rw[e2] at c2
      rw[e5] at c5
      have c3:=hK1.c3
      have c4:=hK1.c4
      have zc:∀o,o<6→wr.cell? ⟨w.heap.size+1,o,none⟩=some (.slice none 0 0):=fun o ho=>(hB.cell (p:=⟨w.heap.size+1,o,none⟩) (by show w.heap.size+1<K;omega)).trans (H6.out.2.2.2.2.2.2.1 o ho)
      have zf:∀o,wr.frozen? ⟨w.heap.size+1,o,none⟩=false:=fun o=>(hB.frozen (p:=⟨w.heap.size+1,o,none⟩) (by show w.heap.size+1<K;omega)).trans (H6.out.2.2.2.2.2.2.2.1 o)
      have z0:=zc 0 (by omega)
      have z1:=zc 1 (by omega)
      have z2:=zc 2 (by omega)
      have z3:=zc 3 (by omega)
      have z4:=zc 4 (by omega)
      have z5:=zc 5 (by omega)
      have HK:=Hd6 hK1 hB e0 e1 e2 e5
      clear hK1 hB zc e0 e1 e2 e5
      have hBw:Below w.heap.size w wr:=(H6.out.2.2.2.2.2.2.2.2).trans (HK.out.2.1.mono (by omega))
      have HBw:=Lib.hid hBw;clear hBw
      go_wp2
      refine bodyPost_ret (v:=.agg #[.slice g0 G.n p0,.slice g1 G.n p1,.slice g2 G.n p2,.slice (some ⟨dB,0,none⟩) (nE G) (nE G),.slice (some ⟨rB,0,none⟩) (nE G) (nE G),.slice g5 (nV G) p5]) (by simp[results,Try.results62,go_sem, *]) rfl ⟨_,rfl,?_,six_below HBw.out (by omega) _ _ _ _ _ _⟩
      have hsk:=six_sk HK.out.1 (A:=w.heap.size+1) (by omega) trivial (.slice g0 G.n p0) (.slice g1 G.n p1) (.slice g2 G.n p2) (.slice (some ⟨dB,0,none⟩) (nE G) (nE G)) (.slice (some ⟨rB,0,none⟩) (nE G) (nE G)) (.slice g5 (nV G) p5)
      have h0:=hsk.own 0 (.inl rfl)
      have h1:=hsk.own 1 (.inr (.inl rfl))
      have h2:=hsk.own 2 (.inr (.inr (.inl rfl)))
      have h5:=hsk.own 5 (.inr (.inr (.inr rfl)))
      rw[HK.out.2.2.1] at h0
      rw[HK.out.2.2.2.1] at h1
      rw[HK.out.2.2.2.2.1] at h2
      rw[HK.out.2.2.2.2.2] at h5
      exact⟨⟨_,_,_,_,dB,rB,x5,rfl,ze3 h0 (by omega),ze3 h1 (by omega),ze3 h2 (by omega),ze3 h5 (by omega),hsk.dr,hsk.rr,by omega,by omega⟩⟩
end
end Go.Proofs.Ytlckpgahijlmoaa
