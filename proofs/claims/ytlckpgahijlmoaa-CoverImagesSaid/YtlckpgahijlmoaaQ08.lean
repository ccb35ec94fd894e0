/- The tetrahedra around an edge: the pure walk: it is undone by the walk the other way, so it ends or closes. No condition. -/
import Derived.Test.YtlckpgahijlmoaaQ04
import Derived.Test.YtlckpgahijlmoaaQ07
import Derived.Deep.RegionHeld3
import Derived.IntWalk
set_option maxRecDepth 100000
set_option maxHeartbeats 8000000
namespace Go.Proofs.Ytlckpgahijlmoaa
section
open Go.RowKit Go.Shelf
section
variable {P:Program}
theorem zc2 {ops:Array Oper}{rest:List Oper}{op:Oper}{a:Act}{w:World}{Q:Exit→Act→World→Prop}(hgd:op.guard=none)(ty:TypeId)(x y:Operand)(ho:op.op=.store ty x y)
  (c c':Array Value) (hx:a.eval x=.pointer (some ⟨w.heap.size,0,none⟩)) (hy:a.eval y=.agg c') (hi:(P.info? ty).map (·.size)=some c'.size) (hs:c.size=c'.size) (h1:c'.all (·.oneCell')=true)
  (h:wpList P ops Q rest (a.put op.dst undef) (w.alloc (.cells c' ty))):wpList P ops Q (op :: rest) a (w.alloc (.cells c ty)):=by
 refine wpList_plain hgd fun K hK=>?_
 unfold Oper.wp execOp
 simp only[ho,hx,hy,Instr.storeAt,Instr.sureAddr,Sem.run_bind,Sem.run_pure,Result.andThen_ok,run_storeVar_new w ty c c' hi hs h1]
 exact hK _ _ h
theorem zf4 {ops:Array Oper}{rest:List Oper}{op:Oper}{a:Act}{w:World}{Q:Exit→Act→World→Prop}(hgd:op.guard=none)(ty:TypeId)(x:Operand)(ho:op.op=.load ty x)
  (c:Array Value) (n:Nat) (e:TypeId) (hx:a.eval x=.pointer (some ⟨w.heap.size,0,none⟩)) (hu:P.underlying ty=some (.array n e)) (hi:(P.info? ty).map (·.size)=some c.size)
  (h:wpList P ops Q rest (a.put op.dst (.agg c)) (w.alloc (.cells c ty))):wpList P ops Q (op :: rest) a (w.alloc (.cells c ty)):=by
 refine wpList_plain hgd fun K hK=>?_
 unfold Oper.wp execOp
 simp only[ho,hx,Instr.loadAt,Instr.sureAddr,Sem.run_bind,Sem.run_pure,Result.andThen_ok,run_loadVar_new w ty c n e hu hi]
 exact hK _ _ h
end
theorem zf9 (G:Gl)(t:Nat):(rowA G t).all (·.oneCell')=true:=all_oneCell_toArray (by intro v hv;simp at hv;rcases hv with rfl | rfl | rfl | rfl | rfl | rfl | rfl | rfl | rfl | rfl | rfl | rfl | rfl | rfl | rfl | rfl | rfl | rfl | rfl | rfl<;>rfl)
def Gl.T (G:Gl)(k:Nat):Nat:=(G.tet k).toNat
def Gl.P (G:Gl)(k i:Nat):Nat:=(G.pm k i).toNat
theorem zc6 {G:Gl}(h:za9 G=true){k:Nat}(hk:k<4*G.n)(ht:¬G.tet k<0):G.tet k=(G.T k:Nat)∧G.T k<G.n∧∀i,i<4→G.pm k i=(G.P k i:Nat)∧G.P k i<4:=by
 simp only[za9,Bool.and_eq_true,List.all_eq_true,List.mem_range] at h
 have h1:=h.2 k hk
 simp only[okB,Bool.or_eq_true,Bool.and_eq_true,noneB,beq_iff_eq,inTetB,decide_eq_true_eq] at h1
 rcases h1 with h1 | h1
 ·omega
 ·obtain⟨⟨⟨⟨h2,h3⟩,h4⟩,_⟩,_⟩:=h1
  simp only[zc9,Bool.and_eq_true] at h4
  refine⟨by simp[Gl.T];omega,by simp[Gl.T];omega,fun i hi=>?_⟩
  have:=zf2.1 (all4_iff.1 h4.1 i hi)
  simp only[Gl.p] at this
  exact⟨by simp[Gl.P];omega,by simp[Gl.P];omega⟩
theorem ok_inj {G:Gl}(h:za9 G=true){k:Nat}(hk:k<4*G.n)(ht:¬G.tet k<0):∀i j,i<4→j<4→i≠j→G.P k i≠G.P k j:=by
 have hf:=zc6 h hk ht
 simp only[za9,Bool.and_eq_true,List.all_eq_true,List.mem_range] at h
 have h1:=h.2 k hk
 simp only[okB,Bool.or_eq_true,Bool.and_eq_true,noneB,beq_iff_eq,inTetB,decide_eq_true_eq] at h1
 rcases h1 with h1 | h1
 ·omega
 ·obtain⟨⟨⟨⟨h2,h3⟩,h4⟩,_⟩,_⟩:=h1
  simp only[zc9,Bool.and_eq_true,beq_iff_eq] at h4
  have hm:=h4.2
  obtain⟨_,_,hp⟩:=hf
  have p0:=hp 0 (by omega)
  have p1:=hp 1 (by omega)
  have p2:=hp 2 (by omega)
  have p3:=hp 3 (by omega)
  simp only[maskF,Gl.p,p0.1,p1.1,p2.1,p3.1,Int.toNat_natCast] at hm
  have key:∀a b c d:Fin 4,(0 ||| 1 <<< a.val ||| 1 <<< b.val ||| 1 <<< c.val ||| 1 <<< d.val)=15→a≠b∧a≠c∧a≠d∧b≠c∧b≠d∧c≠d:=by decide +kernel
  have:=key ⟨_,p0.2⟩ ⟨_,p1.2⟩ ⟨_,p2.2⟩ ⟨_,p3.2⟩ hm
  simp only[ne_eq,Fin.mk.injEq] at this
  obtain⟨k1,k2,k3,k4,k5,k6⟩:=this
  intro i j hi hj hij
  match i,hi,j,hj with
  | 0,_,0,_=>exact absurd rfl hij
  | 0,_,1,_=>exact k1
  | 0,_,2,_=>exact k2
  | 0,_,3,_=>exact k3
  | 1,_,0,_=>exact Ne.symm k1
  | 1,_,1,_=>exact absurd rfl hij
  | 1,_,2,_=>exact k4
  | 1,_,3,_=>exact k5
  | 2,_,0,_=>exact Ne.symm k2
  | 2,_,1,_=>exact Ne.symm k4
  | 2,_,2,_=>exact absurd rfl hij
  | 2,_,3,_=>exact k6
  | 3,_,0,_=>exact Ne.symm k3
  | 3,_,1,_=>exact Ne.symm k5
  | 3,_,2,_=>exact Ne.symm k6
  | 3,_,3,_=>exact absurd rfl hij
def lp {α:Type}(f:Nat→α→α)(s:α):Nat→α
 | 0=>s
 | m+1=>f m (lp f s m)
structure Cls where
 (r1 r2 r3 r4:Nat→Nat)
def edN (i j:Nat):Nat:=(edgeF i j).toNat
theorem edN_eq (i j:Nat)(hi:i<4)(hj:j<4)(h:i≠j):edgeF (i:Int) (j:Int)=(edN i j:Nat)∧edN i j<6:=by
 have key:∀i j:Fin 4,i≠j→edgeF (i.val:Int) (j.val:Int)=(edN i.val j.val:Nat)∧edN i.val j.val<6:=by decide +kernel
 exact key ⟨i,hi⟩ ⟨j,hj⟩ (by simpa using h)
def clsJ (G:Gl)(k i j:Nat)(s:Cls):Cls:=
 if j≠k % 4∧j≠i then
  { s with r2:=joinR s.r2 (16*(k / 4)+4*i+j) (16*G.T k+4*G.P k i+G.P k j),r3:=joinR s.r3 (6*(k / 4)+edN i j) (6*G.T k+edN (G.P k i) (G.P k j)) }
 else s
def clsI (G:Gl)(k i:Nat)(s:Cls):Cls:=
 if i=k % 4 then s else lp (clsJ G k i) { s with r1:=joinR s.r1 (4*(k / 4)+i) (4*G.T k+G.P k i) } 4
def clsF (G:Gl)(k:Nat)(s:Cls):Cls:=
 if G.tet k<0 then s else lp (clsI G k) { s with r4:=joinR s.r4 k (4*G.T k+G.P k (k % 4)) } 4
theorem clsI_ne {G:Gl}{k i:Nat}{s:Cls}(h:i≠k % 4):clsI G k i s=lp (clsJ G k i) { s with r1:=joinR s.r1 (4*(k / 4)+i) (4*G.T k+G.P k i) } 4:=if_neg h
theorem clsF_ge {G:Gl}{k:Nat}{s:Cls}(h:¬G.tet k<0):clsF G k s=lp (clsI G k) { s with r4:=joinR s.r4 k (4*G.T k+G.P k (k % 4)) } 4:=if_neg h
theorem clsJ_ne {G:Gl}{k i j:Nat}{s:Cls}(h:j≠k % 4)(h2:j≠i):clsJ G k i j s={ s with r2:=joinR s.r2 (16*(k / 4)+4*i+j) (16*G.T k+4*G.P k i+G.P k j),r3:=joinR s.r3 (6*(k / 4)+edN i j) (6*G.T k+edN (G.P k i) (G.P k j)) }:=if_pos ⟨h,h2⟩
def cls0:Cls:=⟨id,id,id,id⟩
def zb5 (G:Gl):Cls:=lp (clsF G) cls0 (4*G.n)
structure CL (W:World)(B C b1 b2 b3 b4 n:Nat)(v:Value)(R:Cls):Prop where
 gl:W.cell? ⟨C,0,none⟩=some v
 u1:UF W C 1 b1 (4*n) R.r1
 u2:UF W C 2 b2 (16*n) R.r2
 u3:UF W C 3 b3 (6*n) R.r3
 u4:UF W C 4 b4 (4*n) R.r4
 ne:b1≠b2∧b1≠b3∧b1≠b4∧b2≠b3∧b2≠b4∧b3≠b4
 lo:B≤C∧B≤b1∧B≤b2∧B≤b3∧B≤b4
theorem UF.lt {W:World}{pb po b n:Nat}{r:Nat→Nat}(h:UF W pb po b n r):pb<W.heap.size∧b<W.heap.size:=⟨za0 h.ptr,by obtain⟨u,hu,_⟩:=h.row;exact hu.lt⟩
theorem za6 {B:Nat}{w w':World}(h:Below B w w')(hB:w.heap.size≤B)(row:Option Nat):w.grownBy w' row:=⟨h.os,h.tape,h.output,h.size,fun k hk _=>h.block k (by omega)⟩
theorem CL.below {W W':World}{B C b1 b2 b3 b4 n:Nat}{v:Value}{R:Cls}(h:CL W B C b1 b2 b3 b4 n v R)(hb:Below W.heap.size W W'):CL W' B C b1 b2 b3 b4 n v R:=
 have hg:=za6 hb (Nat.le_refl _) none
 ⟨hg.cell h.gl (by simp),h.u1.kept hg (by simp) (by simp),h.u2.kept hg (by simp) (by simp),h.u3.kept hg (by simp) (by simp),h.u4.kept hg (by simp) (by simp),h.ne,h.lo⟩
theorem CL.join1 {W W':World}{B C b1 b2 b3 b4 n:Nat}{v:Value}{R:Cls}{r:Nat→Nat}(h:CL W B C b1 b2 b3 b4 n v R)(hu:UF W' C 1 b1 (4*n) r)(hg:W.grownBy W' (some b1)):CL W' B C b1 b2 b3 b4 n v { R with r1:=r }:=by
 obtain⟨n1,n2,n3,n4,n5,n6⟩:=h.ne
 have c:=h.u1.ne
 exact⟨hg.cell h.gl (by simpa using c),hu,h.u2.kept hg (by simp;omega) (by simpa using c),h.u3.kept hg (by simp;omega) (by simpa using c),h.u4.kept hg (by simp;omega) (by simpa using c),h.ne,h.lo⟩
theorem CL.join2 {W W':World}{B C b1 b2 b3 b4 n:Nat}{v:Value}{R:Cls}{r:Nat→Nat}(h:CL W B C b1 b2 b3 b4 n v R)(hu:UF W' C 2 b2 (16*n) r)(hg:W.grownBy W' (some b2)):CL W' B C b1 b2 b3 b4 n v { R with r2:=r }:=by
 obtain⟨n1,n2,n3,n4,n5,n6⟩:=h.ne
 have c:=h.u2.ne
 exact⟨hg.cell h.gl (by simpa using c),h.u1.kept hg (by simp;omega) (by simpa using c),hu,h.u3.kept hg (by simp;omega) (by simpa using c),h.u4.kept hg (by simp;omega) (by simpa using c),h.ne,h.lo⟩
theorem CL.join3 {W W':World}{B C b1 b2 b3 b4 n:Nat}{v:Value}{R:Cls}{r:Nat→Nat}(h:CL W B C b1 b2 b3 b4 n v R)(hu:UF W' C 3 b3 (6*n) r)(hg:W.grownBy W' (some b3)):CL W' B C b1 b2 b3 b4 n v { R with r3:=r }:=by
 obtain⟨n1,n2,n3,n4,n5,n6⟩:=h.ne
 have c:=h.u3.ne
 exact⟨hg.cell h.gl (by simpa using c),h.u1.kept hg (by simp;omega) (by simpa using c),h.u2.kept hg (by simp;omega) (by simpa using c),hu,h.u4.kept hg (by simp;omega) (by simpa using c),h.ne,h.lo⟩
theorem CL.join4 {W W':World}{B C b1 b2 b3 b4 n:Nat}{v:Value}{R:Cls}{r:Nat→Nat}(h:CL W B C b1 b2 b3 b4 n v R)(hu:UF W' C 4 b4 (4*n) r)(hg:W.grownBy W' (some b4)):CL W' B C b1 b2 b3 b4 n v { R with r4:=r }:=by
 obtain⟨n1,n2,n3,n4,n5,n6⟩:=h.ne
 have c:=h.u4.ne
 exact⟨hg.cell h.gl (by simpa using c),h.u1.kept hg (by simp;omega) (by simpa using c),h.u2.kept hg (by simp;omega) (by simpa using c),h.u3.kept hg (by simp;omega) (by simpa using c),hu,h.ne,h.lo⟩
structure FC (W:World)(B C b1 b2 b3 b4:Nat)(v:Value)(A8 A9:Nat)(G:Gl)(k:Nat)(R:Cls):Prop where
 cl:CL W B C b1 b2 b3 b4 G.n v R
 c8:W.cell? ⟨A8,0,none⟩=some (.int .i64 (G.T k:Nat))
 c9:∀i,i<4→W.cell? ⟨A9,i,none⟩=some (.int .i64 (G.P k i:Nat))
 lt:b1<A8∧b2<A8∧b3<A8∧b4<A8∧A8<A9
section
variable {W W':World}{B C b1 b2 b3 b4:Nat}{v:Value}{A8 A9:Nat}{G:Gl}{k:Nat}{R:Cls}
theorem FC.below (h:FC W B C b1 b2 b3 b4 v A8 A9 G k R)(hb:Below W.heap.size W W'):FC W' B C b1 b2 b3 b4 v A8 A9 G k R:=
 have hg:=za6 hb (Nat.le_refl _) none
 ⟨h.cl.below hb,hg.cell h.c8 (by simp),fun i hi=>hg.cell (h.c9 i hi) (by simp),h.lt⟩
theorem FC.c (h:FC W B C b1 b2 b3 b4 v A8 A9 G k R){b:Nat}(hg:W.grownBy W' (some b))(hb:b<A8){R':Cls}(hc:CL W' B C b1 b2 b3 b4 G.n v R'):FC W' B C b1 b2 b3 b4 v A8 A9 G k R':=
 ⟨hc,hg.cell h.c8 (by simp;omega),fun i hi=>hg.cell (h.c9 i hi) (by have:=h.lt;simp;omega),h.lt⟩
end
theorem newClasses_walk (G:Gl)(v:Value)(w:World)(hG:GlAt w.heap.size w v G)(hok:za9 G=true) :
  Calls Try.prog 60 #[.agg #[v]] w fun e w'=>∃C b1 b2 b3 b4,e=.returned (.pointer (some ⟨C,0,none⟩))∧CL w' w.heap.size C b1 b2 b3 b4 G.n v (zb5 G)∧Below w.heap.size w w':=by
 have hn:G.n≤1000:=by simp only[za9,Bool.and_eq_true,decide_eq_true_eq] at hok;exact hok.1
 have HOK:=Lib.hid hok;clear hok
 have HG:=Lib.hid hG
 obtain⟨a,b,off,cap,rfl,hga,hc⟩:=hG
 have HC:=Lib.hid hc;clear hc
 have HA:=Lib.hid hga;clear hga
 go_enter Try.func60,Try.ntmps60
 go_wp2_with fail
 refine zb3 fun W1 hW=>?_
 have c1:W1.cell? ⟨w.heap.size,0,none⟩=some (.slice a G.n cap):=by rw[hW];simp[go_sem]
 have hB1:Below w.heap.size w W1:=by rw[hW];(repeat' (first | assumption | exact Below.refl _ _ | refine za7 ?_ (by assumption) | refine zb2 ?_ _ | refine za5 ?_ | refine zb1 ?_ (by simp<;>omega) _))
 have hs1:w.heap.size<W1.heap.size:=by rw[hW];simp
 clear hW
 generalize hN:w.heap.size=N at *
 obtain⟨m4,hm4⟩:∃m,m=4*G.n:=⟨_,rfl⟩
 obtain⟨m16,hm16⟩:∃m,m=16*G.n:=⟨_,rfl⟩
 obtain⟨m6,hm6⟩:∃m,m=6*G.n:=⟨_,rfl⟩
 have k4:m4≤1000000:=by omega
 have k16:m16≤1000000:=by omega
 have k6:m6≤1000000:=by omega
 have q4:IntKind.i64.wrap (4*(G.n:Int))=(m4:Int):=by rw[IntWalk.i64_in _ (by omega)];omega
 have q16:IntKind.i64.wrap (16*(G.n:Int))=(m16:Int):=by rw[IntWalk.i64_in _ (by omega)];omega
 have q6:IntKind.i64.wrap (6*(G.n:Int))=(m6:Int):=by rw[IntWalk.i64_in _ (by omega)];omega
 have HM:=Hd3 hm4 hm16 hm6;clear hm4 hm16 hm6
 go_region_held3 (fun w'=>w'.cell? ⟨N,0,none⟩=some (.slice a G.n cap)∧N<w'.heap.size)
  (first | assumption|(go_split_ands;exact⟨(((Below.refl _ _).alloc (Nat.le_refl _) _).cell (p:=⟨N,0,none⟩) (by show N<_;assumption)).trans (by assumption),by rw[World.size_alloc];exact Nat.lt_succ_of_lt (by assumption)⟩) | exact⟨by assumption,by simpa using hs1⟩|(go_split_ands;exact⟨(hb.cell (p:=⟨N,0,none⟩) (by show N<_;assumption)).trans (by assumption),Nat.lt_of_lt_of_le (by assumption) hb.size⟩))
  (first|(go_at_call 102;with_reducible refine (newUnion_walk m4 k4 _).mono ?_;rintro e w' ⟨d,rfl,hd,hu,hb⟩)|(go_at_call 102;with_reducible refine (newUnion_walk m16 k16 _).mono ?_;rintro e w' ⟨d,rfl,hd,hu,hb⟩)|(go_at_call 102;with_reducible refine (newUnion_walk m6 k6 _).mono ?_;rintro e w' ⟨d,rfl,hd,hu,hb⟩))
 rename_i x1 d1 hd1 hu1 hb1 x2 d2 hd2 hu2 hb2 x3 d3 hd3 hu3 hb3 hH
 have hCL:∀W2,W2=w'.alloc (.cells #[.slice a G.n cap,.slice (some ⟨d1,0,none⟩) m4 m4,.slice (some ⟨d2,0,none⟩) m16 m16,.slice (some ⟨d3,0,none⟩) m6 m6,.slice (some ⟨d,0,none⟩) m4 m4] 122) →
   CL W2 N w'.heap.size d1 d2 d3 d G.n (.slice a G.n cap) cls0∧Below N w W2∧W2.cell? ⟨N,0,none⟩=some (.slice a G.n cap)∧N<w'.heap.size∧w'.heap.size<W2.heap.size:=by
  rintro W2 rfl
  obtain⟨rfl,rfl,rfl⟩:=HM.out
  simp only[World.size_drew] at hd1
  have l1:=hu1.lt
  have l2:=hu2.lt
  have l3:=hu3.lt
  have l4:=hu.lt
  have s1:=hb1.size
  have s2:=hb2.size
  have s3:=hb3.size
  have s4:=hb.size
  simp only[World.size_drew] at s1
  have e1:=za3 (za3 (za3 hu1 (za6 hb2 (Nat.le_refl _) none) (by simp)) (za6 hb3 (Nat.le_refl _) none) (by simp)) (za6 hb (Nat.le_refl _) none) (by simp)
  have e2:=za3 (za3 hu2 (za6 hb3 (Nat.le_refl _) none) (by simp)) (za6 hb (Nat.le_refl _) none) (by simp)
  have e3:=za3 hu3 (za6 hb (Nat.le_refl _) none) (by simp)
  have rp:∀m,Reps m id id:=fun m=>⟨fun i _=>Nat.le_refl _,fun i _=>rfl,fun i _ _=>rfl⟩
  refine⟨⟨by simp[go_sem],⟨by simp[go_sem],by omega,id,e1.alloc _,rp _⟩,⟨by simp[go_sem],by omega,id,e2.alloc _,rp _⟩,⟨by simp[go_sem],by omega,id,e3.alloc _,rp _⟩,⟨by simp[go_sem],by omega,id,hu.alloc _,rp _⟩,by omega,by omega⟩,?_,?_,by omega,by simp⟩
  ·refine ((((hB1.trans (za5 (Below.refl N W1))).trans (hb1.mono (by simp;omega))).trans (hb2.mono (by omega))).trans ((hb3.mono (by omega)).trans (hb.mono (by omega)))).alloc (by omega) _
  ·exact hH.1
 generalize hC:w'.heap.size=C at *
 generalize w'.alloc (.cells #[.slice a G.n cap,.slice (some ⟨d1,0,none⟩) m4 m4,.slice (some ⟨d2,0,none⟩) m16 m16,.slice (some ⟨d3,0,none⟩) m6 m6,.slice (some ⟨d,0,none⟩) m4 m4] 122)=W2 at *
 obtain⟨hCL,hB2,c2,hNC,hCW⟩:=hCL W2 rfl
 have H2:=Hd2 hCL hB2
 clear hCL hB2 hB1 hd1 hu1 hb1 hd2 hu2 hb2 hd3 hu3 hb3 hH hd hu hb hs1 c1 hC
 clear hCL x1 x2 x3 w' q4 q16 q6
 go_wp2
 go_loopw [37] (fun i wr=>∃t:Nat,t≤G.n∧i=.int .i64 t∧CL wr N C d1 d2 d3 d G.n (.slice a G.n cap) (lp (clsF G) cls0 (4*t))∧Below N w wr∧W2.heap.size≤wr.heap.size) (fun i _=>G.n-(intOf i).toNat)
 case atStart=>exact⟨0,by omega,rfl,H2.out.1,H2.out.2,Nat.le_refl _⟩
 case round=>
  obtain⟨t,ht,rfl,hCL,hB,hsz⟩:=hrel
  have HK:=Hd2 hCL hB
  rcases Nat.lt_or_ge t G.n with hlt | hge
  ·obtain⟨rfl,hbN⟩:=HA.out (by omega)
   have hrow:=ze5 (fun k hk=>⟨(hB.cell (p:=⟨b,_,none⟩) hbN).trans (HC.out k hk).1,fun i hi=>(hB.cell (p:=⟨b,_,none⟩) hbN).trans ((HC.out k hk).2 i hi)⟩) t hlt
   have hrg:=hrow.range
   clear hrow hCL hB
   go_wp2_with (first|(refine zb8 rfl 88 (.tmp 40) rfl b (off+t*20) rfl (rowA G t) _ hrg Try.underlying88 rfl (by kernel_rfl) ?_)|(refine zc2 (w:=wr) rfl 88 (.tmp 6) (.tmp 41) rfl _ (rowA G t) rfl rfl (by kernel_rfl) rfl (zf9 G t) ?_)|(refine zf4 (w:=wr) rfl 88 (.tmp 6) rfl (rowA G t) 4 87 rfl Try.underlying88 (by kernel_rfl) ?_))
   clear hrg
   refine zb3 fun Wr hWr=>?_
   have hCLr:CL Wr N C d1 d2 d3 d G.n (.slice (some ⟨b,off,none⟩) G.n cap) (lp (clsF G) cls0 (4*t)):=hWr▸HK.out.1.below (by exact (Below.refl _ _).alloc (Nat.le_refl _) _)
   have hBr:Below N w Wr:=hWr▸HK.out.2.alloc (by omega) _
   have hsr:W2.heap.size≤Wr.heap.size:=by rw[hWr];simp;omega
   have HR:=Hd2 hCLr hBr
   clear hWr hCLr hBr HK
   go_loopw [43] (fun i wi=>∃f:Nat,f≤4∧i=.int .i64 f∧CL wi N C d1 d2 d3 d G.n (.slice (some ⟨b,off,none⟩) G.n cap) (lp (clsF G) cls0 (4*t+f))∧Below N w wi∧W2.heap.size≤wi.heap.size) (fun i _=>4-(intOf i).toNat)
   case atStart=>exact⟨0,by omega,rfl,HR.out.1,HR.out.2,hsr⟩
   case round=>
    clear HR hsr hsz Wr
    obtain⟨f,hf,rfl,hCL,hB,hsz⟩:=hrel
    have HK:=Hd2 hCL hB
    clear hCL hB
    rcases Nat.lt_or_ge f 4 with hlf | hgf
    ·have hix:=fun w=>ze2 G t f hlf w
     unfold faceA at hix
     have hk:4*t+f<4*G.n:=by omega
     by_cases hneg:G.tet (4*t+f)<0
     ·have HE:=Lib.hid (show clsF G (4*t+f) (lp (clsF G) cls0 (4*t+f))=lp (clsF G) cls0 (4*t+f) by simp[clsF,hneg])
      generalize G.tet (4*t+f)=T at *
      go_wp2
      go_roundw
      case rel=>
       refine⟨f+1,by omega,rfl,?_,?_,?_⟩
       ·show CL _ _ _ _ _ _ _ _ _ (clsF G (4*t+f) (lp (clsF G) cls0 (4*t+f)))
        rw[HE.out]
        exact HK.out.1.below ((Below.refl _ _).alloc (Nat.le_refl _) _)
       ·exact HK.out.2.alloc (by omega) _
       ·simp;omega
      case measure=>simp[intOf];omega
     ·obtain⟨e1,e2,e3⟩:=zc6 HOK.out hk hneg
      rw[e1,(e3 0 (by omega)).1,(e3 1 (by omega)).1,(e3 2 (by omega)).1,(e3 3 (by omega)).1] at hix
      have E1:=Lib.hid e1;have E3:=Lib.hid e3;have E2:=Lib.hid e2
      have HNEG:=Lib.hid hneg
      clear e1 e2 e3 hneg
      generalize hT:((G.T (4*t+f):Nat):Int)=T' at *
      have hT0:0≤T':=by omega
      have HT:=Lib.hid hT
      clear hT
      go_wp2_with fail
      clear hix
      refine zb3 fun W3 hW3=>?_
      have hFC:FC W3 N C d1 d2 d3 d (.slice (some ⟨b,off,none⟩) G.n cap) wr.heap.size (wr.heap.size+1) G (4*t+f) (lp (clsF G) cls0 (4*t+f)):=by
       have hT:=HT.out
       have h:=HK.out.1
       subst hW3
       refine⟨h.below (((Below.refl _ _).alloc (Nat.le_refl _) _).alloc (by simp) _),by simp[go_sem,hT],fun i hi=>?_,h.u1.lt.2,h.u2.lt.2,h.u3.lt.2,h.u4.lt.2,by omega⟩
       match i,hi with
       | 0,_=>simp[go_sem]
       | 1,_=>simp[go_sem]
       | 2,_=>simp[go_sem]
       | 3,_=>simp[go_sem]
      have hB3:Below N w W3:=by rw[hW3];exact (HK.out.2.alloc (by omega) _).alloc (by simp;omega) _
      have hs3:W2.heap.size≤W3.heap.size:=by rw[hW3];simp;omega
      clear hW3
      generalize hA8:wr.heap.size=A8 at *
      generalize hA9:A8+1=A9 at *
      have c8:=hFC.c8
      have c9:=hFC.c9 f hlf
      have e2:=E2.out
      have e3:=(E3.out f hlf).2
      have H3:=Hd3 hFC hB3 hs3
      clear hFC hB3 HK hA8 hA9
      have hkm:(4*t+f) % 4=f:=by omega
      have hkd:(4*t+f) / 4=t:=by omega
      generalize hkk:4*t+f=k at *
      generalize hTN:G.T k=T at *
      generalize hpf:G.P k f=pf at *
      have HPF:=Hd2 hTN hpf
      clear hTN hpf
      obtain⟨x1,hx1⟩:∃x,x=4*t:=⟨_,rfl⟩
      obtain⟨y1,hy1⟩:∃x,x=4*T:=⟨_,rfl⟩
      obtain⟨y2,hy2⟩:∃x,x=y1+pf:=⟨_,rfl⟩
      have q1:IntKind.i64.wrap (4*(t:Int))=(x1:Int):=by rw[IntWalk.i64_in _ (by omega)];omega
      have q2:IntKind.i64.wrap ((x1:Int)+(f:Int))=(k:Int):=by rw[IntWalk.i64_in _ (by omega)];omega
      have q3:IntKind.i64.wrap (4*(T:Int))=(y1:Int):=by rw[IntWalk.i64_in _ (by omega)];omega
      have q4:IntKind.i64.wrap ((y1:Int)+(pf:Int))=(y2:Int):=by rw[IntWalk.i64_in _ (by omega)];omega
      have hy2n:y2<4*G.n:=by omega
      have HX:=Hd3 hx1 hy1 hy2;clear hx1 hy1 hy2
      refine zc1 15 (by kernel_rfl) (by kernel_rfl) ?_
      simp only[List.take_succ_cons,List.take_zero,List.drop_succ_cons,List.drop_zero]
      repeat (refine wpStill_step (fun K hK=>?_);go_simp;refine hK _ ?_;clear hK K)
      refine wpStill_nil ?_
      go_wp2_with fail
      have hF3:=H3.out.1.below (za5 (Below.refl _ _))
      refine (join_walk C 4 d (4*G.n) (lp (clsF G) cls0 k).r4 k y2 hk hy2n (by omega) _ hF3.cl.u4).mono ?_
      rintro e W4 ⟨rfl,hu4,hg4⟩
      have hF4:=hF3.c hg4 hF3.lt.2.2.2.1 (hF3.cl.join4 hu4 hg4)
      have hB4:Below N w W4:=zc8 (za5 H3.out.2.1) hg4 hF3.cl.lo.2.2.2.2 (by have:=H3.out.2.2;simp;omega)
      have hs4:W2.heap.size≤W4.heap.size:=Nat.le_trans H3.out.2.2 hg4.size
      obtain⟨S1,hS1⟩:∃S,S=({ lp (clsF G) cls0 k with r4:=joinR (lp (clsF G) cls0 k).r4 k y2 }:Cls):=⟨_,rfl⟩
      rw[←hS1] at hF4
      have HS1:=Lib.hid hS1
      have H4:=Hd3 hF4 hB4 hs4
      clear hF3 hu4 hg4 hF4 hB4 hs4 hS1 H3 c8 c9 q1 q2 q3 q4 hy2n
      go_wp2_with fail
      go_loopw [68] (fun i' wi=>∃i:Nat,i≤4∧i'=.int .i64 i∧FC wi N C d1 d2 d3 d (.slice (some ⟨b,off,none⟩) G.n cap) A8 A9 G k (lp (clsI G k) S1 i)∧Below N w wi∧W2.heap.size≤wi.heap.size) (fun i _=>4-(intOf i).toNat)
      case atStart=>exact⟨0,by omega,rfl,H4.out.1,H4.out.2.1,H4.out.2.2⟩
      case round=>
       clear H4 W4
       obtain⟨i,hi,rfl,hF,hBi,hsi⟩:=hrel
       have HK:=Hd3 hF hBi hsi
       have hlt8:=hF.lt
       have hA8n:A9<wr.heap.size:=za0 (hF.c9 0 (by omega))
       clear hF hBi hsi
       rcases Nat.lt_or_ge i 4 with hli | hgi
       ·by_cases e:i=f
        ·have he:=zd0 e
         have HE:=Lib.hid (show clsI G k i (lp (clsI G k) S1 i)=lp (clsI G k) S1 i by simp[clsI,e,hkm])
         clear e
         go_wp2
         go_roundw
         case rel=>
          refine⟨i+1,by omega,rfl,?_,HK.out.2.1,HK.out.2.2⟩
          show FC _ _ _ _ _ _ _ _ _ _ _ _ (clsI G k i (lp (clsI G k) S1 i))
          rw[HE.out];exact HK.out.1
         case measure=>simp[intOf];omega
        ·have he:=zc4 e
         have c8:=HK.out.1.c8
         have ci:=HK.out.1.c9 i hli
         have e3i:=(E3.out i hli).2
         rw[HPF.out.1] at c8
         generalize hpi:G.P k i=pi at *
         obtain⟨z2,hz2⟩:∃x,x=x1+i:=⟨_,rfl⟩
         obtain⟨y3,hy3⟩:∃x,x=y1+pi:=⟨_,rfl⟩
         obtain⟨hx1,hy1,hy2⟩:=HX.out
         have q1:IntKind.i64.wrap (4*(t:Int))=(x1:Int):=by rw[IntWalk.i64_in _ (by omega)];omega
         have q2:IntKind.i64.wrap ((x1:Int)+(i:Int))=(z2:Int):=by rw[IntWalk.i64_in _ (by omega)];omega
         have q3:IntKind.i64.wrap (4*(T:Int))=(y1:Int):=by rw[IntWalk.i64_in _ (by omega)];omega
         have q4:IntKind.i64.wrap ((y1:Int)+(pi:Int))=(y3:Int):=by rw[IntWalk.i64_in _ (by omega)];omega
         have hz2n:z2<4*G.n:=by omega
         have hy3n:y3<4*G.n:=by omega
         have HZ:=Hd4 hz2 hy3 hpi e;clear hz2 hy3 hpi hx1 hy1 hy2 e
         go_wp2_with fail
         refine zc1 15 (by kernel_rfl) (by kernel_rfl) ?_
         simp only[List.take_succ_cons,List.take_zero,List.drop_succ_cons,List.drop_zero]
         repeat (refine wpStill_step (fun K hK=>?_);go_simp;refine hK _ ?_;clear hK K)
         refine wpStill_nil ?_
         go_wp2_with fail
         have hF3:=HK.out.1.below (za5 (Below.refl _ _))
         refine (join_walk C 1 d1 (4*G.n) (lp (clsI G k) S1 i).r1 z2 y3 hz2n hy3n (by omega) _ hF3.cl.u1).mono ?_
         rintro e W4 ⟨rfl,hu4,hg4⟩
         have hF4:=hF3.c hg4 hF3.lt.1 (hF3.cl.join1 hu4 hg4)
         have hB4:Below N w W4:=zc8 (za5 HK.out.2.1) hg4 hF3.cl.lo.2.1 (by have:=HK.out.2.2;simp;omega)
         have hs4:W2.heap.size≤W4.heap.size:=Nat.le_trans HK.out.2.2 hg4.size
         obtain⟨S2,hS2⟩:∃S,S=({ lp (clsI G k) S1 i with r1:=joinR (lp (clsI G k) S1 i).r1 z2 y3 }:Cls):=⟨_,rfl⟩
         rw[←hS2] at hF4
         have HS2:=Lib.hid hS2
         have H4:=Hd3 hF4 hB4 hs4
         clear hF3 hu4 hg4 hF4 hB4 hs4 hS2 c8 ci q1 q2 q3 q4 hy3n hz2n
         go_wp2_with fail
         go_loopw [90] (fun i' wi=>∃j:Nat,j≤4∧i'=.int .i64 j∧FC wi N C d1 d2 d3 d (.slice (some ⟨b,off,none⟩) G.n cap) A8 A9 G k (lp (clsJ G k i) S2 j)∧Below N w wi∧W2.heap.size≤wi.heap.size) (fun i _=>4-(intOf i).toNat)
         case atStart=>exact⟨0,by omega,rfl,H4.out.1,H4.out.2.1,H4.out.2.2⟩
         case round=>
          clear H4 W4
          obtain⟨j,hj,rfl,hF,hBi,hsi⟩:=hrel
          have HK2:=Hd3 hF hBi hsi
          have hA9n:A9<wr.heap.size:=za0 (hF.c9 0 (by omega))
          clear hF hBi hsi
          rcases Nat.lt_or_ge j 4 with hlj | hgj
          ·by_cases ef:j=f
           ·have hef:=zd9 ef
            have HE:=Lib.hid (show clsJ G k i j (lp (clsJ G k i) S2 j)=lp (clsJ G k i) S2 j by simp[clsJ,ef,hkm])
            clear ef
            go_wp2
            go_roundw
            case rel=>
             refine⟨j+1,by omega,rfl,?_,HK2.out.2.1,HK2.out.2.2⟩
             show FC _ _ _ _ _ _ _ _ _ _ _ _ (clsJ G k i j (lp (clsJ G k i) S2 j))
             rw[HE.out];exact HK2.out.1
            case measure=>simp[intOf];omega
           ·have hef:=ze4 ef
            by_cases ei:j=i
            ·have hei:=zd9 ei
             have HE:=Lib.hid (show clsJ G k i j (lp (clsJ G k i) S2 j)=lp (clsJ G k i) S2 j by simp[clsJ,ei])
             clear ei ef
             go_wp2
             go_roundw
             case rel=>
              refine⟨j+1,by omega,rfl,?_,HK2.out.2.1,HK2.out.2.2⟩
              show FC _ _ _ _ _ _ _ _ _ _ _ _ (clsJ G k i j (lp (clsJ G k i) S2 j))
              rw[HE.out];exact HK2.out.1
             case measure=>simp[intOf];omega
            ·have hei:=ze4 ei
             have c8:=HK2.out.1.c8
             have ci:=HK2.out.1.c9 i hli
             have cj:=HK2.out.1.c9 j hlj
             have e3i:=(E3.out i hli).2
             have e3j:=(E3.out j hlj).2
             have hpne:=ok_inj HOK.out hk (by have:=HNEG.out;omega) i j hli hlj (fun q=>ei q.symm)
             obtain⟨hE1,hE1n⟩:=edN_eq i j hli hlj (fun q=>ei q.symm)
             obtain⟨hE2,hE2n⟩:=edN_eq _ _ e3i e3j hpne
             rw[HPF.out.1] at c8
             obtain⟨hz2,hy3,hpi,e⟩:=HZ.out
             rw[hpi] at ci hE2 hE2n e3i hpne
             have HES:=Lib.hid (show clsJ G k i j (lp (clsJ G k i) S2 j)={ lp (clsJ G k i) S2 j with r2:=joinR (lp (clsJ G k i) S2 j).r2 (16*t+4*i+j) (16*T+4*pi+G.P k j),r3:=joinR (lp (clsJ G k i) S2 j).r3 (6*t+edN i j) (6*T+edN pi (G.P k j)) } by rw[clsJ_ne (by rw[hkm];exact ef) ei,hkd,HPF.out.1,hpi])
             generalize hpj:G.P k j=pj at *
             generalize edN i j=g1 at *
             generalize edN pi pj=g2 at *
             generalize hS3:lp (clsJ G k i) S2 j=S3 at *
             have HS3:=Lib.hid hS3;clear hS3
             obtain⟨v1,hv1⟩:∃x,x=16*t:=⟨_,rfl⟩
             obtain⟨v2,hv2⟩:∃x,x=4*i:=⟨_,rfl⟩
             obtain⟨v3,hv3⟩:∃x,x=v1+v2:=⟨_,rfl⟩
             obtain⟨v4,hv4⟩:∃x,x=v3+j:=⟨_,rfl⟩
             obtain⟨u1,hu1⟩:∃x,x=16*T:=⟨_,rfl⟩
             obtain⟨u2,hu2⟩:∃x,x=4*pi:=⟨_,rfl⟩
             obtain⟨u3,hu3⟩:∃x,x=u1+u2:=⟨_,rfl⟩
             obtain⟨u4,hu4⟩:∃x,x=u3+pj:=⟨_,rfl⟩
             have q1:IntKind.i64.wrap (16*(t:Int))=(v1:Int):=by rw[IntWalk.i64_in _ (by omega)];omega
             have q2:IntKind.i64.wrap (4*(i:Int))=(v2:Int):=by rw[IntWalk.i64_in _ (by omega)];omega
             have q3:IntKind.i64.wrap ((v1:Int)+(v2:Int))=(v3:Int):=by rw[IntWalk.i64_in _ (by omega)];omega
             have q4:IntKind.i64.wrap ((v3:Int)+(j:Int))=(v4:Int):=by rw[IntWalk.i64_in _ (by omega)];omega
             have p1:IntKind.i64.wrap (16*(T:Int))=(u1:Int):=by rw[IntWalk.i64_in _ (by omega)];omega
             have p2:IntKind.i64.wrap (4*(pi:Int))=(u2:Int):=by rw[IntWalk.i64_in _ (by omega)];omega
             have p3:IntKind.i64.wrap ((u1:Int)+(u2:Int))=(u3:Int):=by rw[IntWalk.i64_in _ (by omega)];omega
             have p4:IntKind.i64.wrap ((u3:Int)+(pj:Int))=(u4:Int):=by rw[IntWalk.i64_in _ (by omega)];omega
             have hv4n:v4<16*G.n:=by omega
             have hu4n:u4<16*G.n:=by omega
             have HV:=Lib.hid (show v4=16*t+4*i+j∧u4=16*T+4*pi+pj by omega)
             have HPJ:=Hd2 hpi hpj
             clear hv1 hv2 hv3 hv4 hu1 hu2 hu3 hu4 hz2 hy3 hpi e hpj hpne
             have HE1:=Lib.hid hE1;have HE2:=Lib.hid hE2
             clear hE1 hE2
             go_wp2_with fail
             refine zc1 23 (by kernel_rfl) (by kernel_rfl) ?_
             simp only[List.take_succ_cons,List.take_zero,List.drop_succ_cons,List.drop_zero]
             repeat (refine wpStill_step (fun K hK=>?_);go_simp;refine hK _ ?_;clear hK K)
             refine wpStill_nil ?_
             go_wp2_with fail
             have hF3:=HK2.out.1.below (za5 (Below.refl _ _))
             refine (join_walk C 2 d2 (16*G.n) S3.r2 v4 u4 hv4n hu4n (by omega) _ hF3.cl.u2).mono ?_
             rintro e W4 ⟨rfl,hu4,hg4⟩
             have hF4:=hF3.c hg4 hF3.lt.2.1 (hF3.cl.join2 hu4 hg4)
             have hB4:Below N w W4:=zc8 (za5 HK2.out.2.1) hg4 hF3.cl.lo.2.2.1 (by have:=HK2.out.2.2;simp;omega)
             have hs4:W2.heap.size≤W4.heap.size:=Nat.le_trans HK2.out.2.2 hg4.size
             have c8:=hF4.c8
             have ci:=hF4.c9 i hli
             have cj:=hF4.c9 j hlj
             have hA9n:A9<W4.heap.size:=za0 ci
             clear q1 q2 q3 q4 p1 p2 p3 p4 hv4n hu4n hF3 hu4 hg4
             rw[HPF.out.1] at c8
             rw[HPJ.out.1] at ci
             rw[HPJ.out.2] at cj
             obtain⟨a1,ha1⟩:∃x,x=6*t:=⟨_,rfl⟩
             obtain⟨a2,ha2⟩:∃x,x=a1+g1:=⟨_,rfl⟩
             obtain⟨b1,hb1⟩:∃x,x=6*T:=⟨_,rfl⟩
             obtain⟨b2,hb2⟩:∃x,x=b1+g2:=⟨_,rfl⟩
             have q1:IntKind.i64.wrap (6*(t:Int))=(a1:Int):=by rw[IntWalk.i64_in _ (by omega)];omega
             have q2:IntKind.i64.wrap ((a1:Int)+(g1:Int))=(a2:Int):=by rw[IntWalk.i64_in _ (by omega)];omega
             have q3:IntKind.i64.wrap (6*(T:Int))=(b1:Int):=by rw[IntWalk.i64_in _ (by omega)];omega
             have q4:IntKind.i64.wrap ((b1:Int)+(g2:Int))=(b2:Int):=by rw[IntWalk.i64_in _ (by omega)];omega
             have ha2n:a2<6*G.n:=by omega
             have hb2n:b2<6*G.n:=by omega
             have HAB:=Lib.hid (show a2=6*t+g1∧b2=6*T+g2 by omega)
             clear ha1 ha2 hb1 hb2
             have HF4:=Hd3 hF4 hB4 hs4
             have l3:=hF4.lt.2.2.1
             clear hF4 hB4 hs4
             go_wp2_with fail
             go_region_held3 (fun w'=>w'.cell? ⟨A8,0,none⟩=some (.int .i64 (T:Int))∧w'.cell? ⟨A9,i,none⟩=some (.int .i64 (pi:Int))∧w'.cell? ⟨A9,j,none⟩=some (.int .i64 (pj:Int))∧A9<w'.heap.size)
              (first
               | exact⟨c8,ci,cj,hA9n⟩
               |(go_split_ands;exact⟨(hb.cell (p:=⟨A8,0,none⟩) (by show A8<_;omega)).trans (by assumption),(hb.cell (p:=⟨A9,i,none⟩) (by show A9<_;omega)).trans (by assumption),(hb.cell (p:=⟨A9,j,none⟩) (by show A9<_;omega)).trans (by assumption),Nat.lt_of_lt_of_le (by assumption) hb.size⟩)
               |(go_split_ands;exact⟨hg.cell (a:=⟨A8,0,none⟩) (by assumption) (by simp;omega),hg.cell (a:=⟨A9,i,none⟩) (by assumption) (by simp;omega),hg.cell (a:=⟨A9,j,none⟩) (by assumption) (by simp;omega),Nat.lt_of_lt_of_le (by assumption) hg.size⟩))
              (first
               |(go_at_call 104;with_reducible refine (Edge_walk (i:Int) (j:Int) _).mono ?_;rintro e w1 ⟨he1,hb⟩;have HB1:=Lib.hid hb;rw[HE1.out] at he1;subst he1)
               |(go_at_call 104;with_reducible refine (Edge_walk (pi:Int) (pj:Int) _).mono ?_;rintro e w2 ⟨he2,hb⟩;have HB2:=Lib.hid hb;rw[HE2.out] at he2;subst he2)
               |(go_at_call 103;with_reducible refine (join_walk C 3 d3 (6*G.n) S3.r3 a2 b2 ha2n hb2n (by omega) _ (((HF4.out.1.below (za5 (Below.refl _ _))).below HB1.out).below HB2.out).cl.u3).mono ?_;rintro e w3 ⟨rfl,hu,hg⟩))
             have h3:=(((HF4.out.1.below (za5 (Below.refl _ _))).below HB1.out).below HB2.out)
             have h4:=h3.c hg l3 (h3.cl.join3 hu hg)
             have hB5:Below N w w3:=zc8 (((za5 HF4.out.2.1).trans (HB1.out.mono (by have:=HF4.out.2.2;simp;omega))).trans (HB2.out.mono (by have:=HF4.out.2.2;have:=HB1.out.size;simp at this;omega))) hg h3.cl.lo.2.2.2.1 (by have:=HF4.out.2.2;have:=HB1.out.size;have:=HB2.out.size;simp at *;omega)
             have hs5:W2.heap.size≤w3.heap.size:=Nat.le_trans HF4.out.2.2 (Nat.le_trans HB1.out.size (Nat.le_trans HB2.out.size hg.size))
             have H5:=Hd3 h4 hB5 hs5
             clear h3 h4 hB5 hs5 hu hg
             go_wp2
             go_roundw
             case rel=>
              refine⟨j+1,by omega,rfl,?_,H5.out.2.1,H5.out.2.2⟩
              show FC _ _ _ _ _ _ _ _ _ _ _ _ (clsJ G k i j (lp (clsJ G k i) S2 j))
              rw[HS3.out,HES.out,←HV.out.1,←HV.out.2,←HAB.out.1,←HAB.out.2]
              exact H5.out.1
             case measure=>simp[intOf];omega
          ·obtain rfl:j=4:=by omega
           go_wp2
           go_roundw
           case rel=>
            refine⟨i+1,by omega,rfl,?_,HK2.out.2.1,HK2.out.2.2⟩
            have h:=HK2.out.1
            obtain⟨hz2,hy3,hpi,e⟩:=HZ.out
            obtain⟨hx1,hy1,hy2⟩:=HX.out
            have e2:clsI G k i (lp (clsI G k) S1 i)=lp (clsJ G k i) S2 4:=by
             rw[clsI_ne (by rw[hkm];exact e),hkd,HS2.out,hz2,hy3,hx1,hy1,HPF.out.1,hpi]
            show FC _ _ _ _ _ _ _ _ _ _ _ _ (clsI G k i (lp (clsI G k) S1 i))
            rw[e2];exact h
           case measure=>simp[intOf];omega
       ·obtain rfl:i=4:=by omega
        go_wp2
        go_roundw
        case rel=>
         refine⟨f+1,by omega,rfl,?_,HK.out.2.1,HK.out.2.2⟩
         have h:=HK.out.1.cl
         obtain⟨hx1,hy1,hy2⟩:=HX.out
         have e2:clsF G k (lp (clsF G) cls0 k)=lp (clsI G k) S1 4:=by
          rw[clsF_ge (by have:=HNEG.out;omega),hkm,HPF.out.1,HPF.out.2,←hy1,←hy2,HS1.out]
         have hk1:4*t+(f+1)=k+1:=by omega
         rw[hk1]
         show CL _ _ _ _ _ _ _ _ _ (clsF G k (lp (clsF G) cls0 k))
         rw[e2];exact h
        case measure=>simp[intOf];omega
    ·obtain rfl:f=4:=by omega
     go_wp2
     go_roundw
     case rel=>exact⟨t+1,by omega,rfl,HK.out.1,HK.out.2,hsz⟩
     case measure=>simp[intOf];omega
  ·obtain rfl:t=G.n:=by omega
   go_wp2
   go_ret
   exact⟨C,d1,d2,d3,d,rfl,by rw[hN];exact HK.out.1,by rw[hN];exact HK.out.2⟩
end
section
open Go.RowKit
def sgJ (p:Nat→Int)(i j:Nat)(s:Int):Int:=if p i<p j then -s else s
def sgI (p:Nat→Int)(i:Nat)(s:Int):Int:=lp (sgJ p i) s i
def signF (p:Nat→Int):Int:=lp (sgI p) 1 4
theorem sgJ_pm {p:Nat→Int}{i j:Nat}{s:Int}(h:s=1∨s=-1):sgJ p i j s=1∨sgJ p i j s=-1:=by
 unfold sgJ;split<;>omega
theorem sgI_pm {p:Nat→Int}{i m:Nat}{s:Int}(h:s=1∨s=-1):lp (sgJ p i) s m=1∨lp (sgJ p i) s m=-1:=by
 induction m with
 | zero=>exact h
 | succ m ih=>exact sgJ_pm ih
theorem sg_pm {p:Nat→Int}{m:Nat}:lp (sgI p) 1 m=1∨lp (sgI p) 1 m=-1:=by
 induction m with
 | zero=>exact .inl rfl
 | succ m ih=>exact sgI_pm ih
theorem sign_walk (p:Nat→Int)(w:World):Calls Try.prog 83 #[.agg #[Value.int .i64 (p 0),Value.int .i64 (p 1),Value.int .i64 (p 2),Value.int .i64 (p 3)]] w fun e w'=>e=.returned (.int .i64 (signF p))∧Below w.heap.size w w':=by
 go_enter Try.func83,Try.ntmps83
 go_wp2
 refine zb3 fun W1 hW=>?_
 have hc:∀i,i<4→W1.cell? ⟨w.heap.size,i,none⟩=some (.int .i64 (p i)):=by
  intro i hi
  rw[hW]
  match i,hi with
  | 0,_=>simp[go_sem]
  | 1,_=>simp[go_sem]
  | 2,_=>simp[go_sem]
  | 3,_=>simp[go_sem]
 have hB:Below w.heap.size w W1:=by rw[hW];(repeat' (first | assumption | exact Below.refl _ _ | refine za7 ?_ (by assumption) | refine zb2 ?_ _ | refine za5 ?_ | refine zb1 ?_ (by simp<;>omega) _))
 have hs:w.heap.size<W1.heap.size:=by rw[hW];simp
 clear hW
 generalize hN:w.heap.size=N at *
 have H:=Hd2 hc hB;clear hc hB
 go_loopw [6,3] (fun i s wr=>∃k:Nat,k≤4∧i=.int .i64 k∧s=.int .i64 (lp (sgI p) 1 k)∧Below W1.heap.size W1 wr) (fun i _ _=>4-(intOf i).toNat)
 case atStart=>exact⟨0,by omega,rfl,rfl,Below.refl _ _⟩
 case round=>
  obtain⟨k,hk,rfl,rfl,hb⟩:=hrel
  have HK:=Lib.hid hb;clear hb
  rcases Nat.lt_or_ge k 4 with hlk | hge
  ·have hpm:=sg_pm (p:=p) (m:=k)
   have k4:(k:Int)<4:=by omega
   have HE:=Lib.hid (show lp (sgI p) 1 (k+1)=lp (sgJ p k) (lp (sgI p) 1 k) k from rfl)
   generalize lp (sgI p) 1 k=s0 at *
   go_wp2
   go_loopw [10,3] (fun i s wr=>∃j:Nat,j≤k∧i=.int .i64 j∧s=.int .i64 (lp (sgJ p k) s0 j)∧Below W1.heap.size W1 wr) (fun i _ _=>4-(intOf i).toNat)
   case atStart=>exact⟨0,by omega,rfl,rfl,HK.out⟩
   case round=>
    obtain⟨j,hj,rfl,rfl,hb⟩:=hrel
    have hcj:=(hb.cell (p:=⟨N,j,none⟩) hs).trans (H.out.1 j (by omega))
    have hck:=(hb.cell (p:=⟨N,k,none⟩) hs).trans (H.out.1 k (by omega))
    have HK2:=Lib.hid hb;clear hb
    have hq:=sgI_pm (p:=p) (i:=k) (m:=j) hpm
    have HS:=Lib.hid (show lp (sgJ p k) s0 (j+1)=sgJ p k j (lp (sgJ p k) s0 j) from rfl)
    generalize hs1:lp (sgJ p k) s0 j=s1 at *
    have HS1:=Lib.hid hs1;clear hs1
    rcases Nat.lt_or_ge j k with hlj | hgj
    ·have j4:(j:Int)<4:=by omega
     have j0:0≤(j:Int):=by omega
     have k0:0≤(k:Int):=by omega
     rcases Int.lt_or_le (p k) (p j) with hlt | hle
     ·have HX:=Lib.hid (show sgJ p k j s1=-s1 by simp[sgJ,hlt])
      generalize p j=pj at *
      generalize p k=pk at *
      rcases hq with rfl | rfl
      ·go_wp2
       go_still (by kernel_rfl)
       go_wp2
       go_roundw
       case rel=>exact⟨j+1,by omega,rfl,by rw[HS.out,HX.out],za5 HK2.out⟩
       case measure=>simp[intOf];omega
      ·go_wp2
       go_still (by kernel_rfl)
       go_wp2
       go_roundw
       case rel=>exact⟨j+1,by omega,rfl,by rw[HS.out,HX.out];rfl,za5 HK2.out⟩
       case measure=>simp[intOf];omega
     ·have HX:=Lib.hid (show sgJ p k j s1=s1 by simp[sgJ];omega)
      generalize p j=pj at *
      generalize p k=pk at *
      go_wp2
      go_still (by kernel_rfl)
      go_wp2
      go_roundw
      case rel=>exact⟨j+1,by omega,rfl,by rw[HS.out,HX.out],za5 HK2.out⟩
      case measure=>simp[intOf];omega
    ·obtain rfl:j=k:=by omega
     go_wp2
     go_roundw
     case rel=>exact⟨j+1,by omega,rfl,by rw[HE.out,HS1.out],HK2.out⟩
     case measure=>simp[intOf];omega
  ·obtain rfl:k=4:=by omega
   go_wp2
   go_ret
   exact⟨rfl,by have:=H.out.2;have hb:=HK.out;exact hN▸this.trans (hb.mono (by omega))⟩
def SignI (p:Nat→Int):Int:=if zc9 p then signF p else 0
theorem Sign_walk (p:Nat→Int)(w:World):Calls Try.prog 43 #[.agg #[Value.int .i64 (p 0),Value.int .i64 (p 1),Value.int .i64 (p 2),Value.int .i64 (p 3)]] w fun e w'=>e=.returned (.int .i64 (SignI p))∧Below w.heap.size w w':=by
 go_enter Try.func43,Try.ntmps43
 by_cases hv:zc9 p=true
 ·have hS:SignI p=signF p:=if_pos hv
  rw[hS]
  go_wp2_with (first|(go_at_call 82;refine (valid_walk p _).mono ?_;rintro e w' ⟨rfl,hb⟩;obtain⟨hc,hf⟩:=bcell hb;have z0:w.heap.size<w'.heap.size:=(by have hz:=hb.size;(try simp at hz);omega))|(go_at_call 83;refine (sign_walk p _).mono ?_;rintro e w' ⟨rfl,hb⟩;obtain⟨hc,hf⟩:=bcell hb;have z0:w.heap.size<w'.heap.size:=(by have hz:=hb.size;(try simp at hz);omega)))
  go_ret
  exact⟨rfl,by (repeat' (first | assumption | exact Below.refl _ _ | refine za7 ?_ (by assumption) | refine zb2 ?_ _ | refine za5 ?_ | refine zb1 ?_ (by simp<;>omega) _))⟩
 ·have hv:zc9 p=false:=by simpa using hv
  have hS:SignI p=0:=by simp[SignI,hv]
  rw[hS]
  go_wp2_with (go_at_call 82;refine (valid_walk p _).mono ?_;rintro e w' ⟨rfl,hb⟩;obtain⟨hc,hf⟩:=bcell hb;have z0:w.heap.size<w'.heap.size:=(by have hz:=hb.size;(try simp at hz);omega))
  go_ret
  exact⟨rfl,by (repeat' (first | assumption | exact Below.refl _ _ | refine za7 ?_ (by assumption) | refine zb2 ?_ _ | refine za5 ?_ | refine zb1 ?_ (by simp<;>omega) _))⟩
end
section
open Go.RowKit
abbrev RS:=Nat×Nat×Nat×Nat×Nat
def rp (s:RS)(i:Nat):Nat:=if i=0 then s.2.1 else if i=1 then s.2.2.1 else if i=2 then s.2.2.2.1 else s.2.2.2.2
structure Rok (n:Nat)(s:RS):Prop where
 t:s.1<n
 l:s.2.1<4∧s.2.2.1<4∧s.2.2.2.1<4∧s.2.2.2.2<4
 d:s.2.1≠s.2.2.1∧s.2.1≠s.2.2.2.1∧s.2.1≠s.2.2.2.2∧s.2.2.1≠s.2.2.2.1∧s.2.2.1≠s.2.2.2.2∧s.2.2.2.1≠s.2.2.2.2
def stp (G:Gl)(l:Nat)(s:RS):Option RS:=
 if G.tet (4*s.1+rp s l)<0 then none
 else some (G.T (4*s.1+rp s l),G.P (4*s.1+rp s l) s.2.1,G.P (4*s.1+rp s l) s.2.2.1,G.P (4*s.1+rp s l) s.2.2.2.2,G.P (4*s.1+rp s l) s.2.2.2.1)
theorem rp_lt {n:Nat}{s:RS}(h:Rok n s)(l:Nat):rp s l<4:=by
 obtain⟨a,b,c,d⟩:=h.l
 unfold rp;split
 ·exact a
 ·split
  ·exact b
  ·split<;>assumption
theorem ok_back {G:Gl}(h:za9 G=true){k:Nat}(hk:k<4*G.n)(ht:¬G.tet k<0) :
  4*G.T k+G.P k (k % 4)<4*G.n∧¬G.tet (4*G.T k+G.P k (k % 4))<0∧G.T (4*G.T k+G.P k (k % 4))=k / 4∧∀i,i<4→G.P (4*G.T k+G.P k (k % 4)) (G.P k i)=i:=by
 obtain⟨h1,h2,hp⟩:=zc6 h hk ht
 have hinj:=ok_inj h hk ht
 have p0:=hp 0 (by omega)
 have p1:=hp 1 (by omega)
 have p2:=hp 2 (by omega)
 have p3:=hp 3 (by omega)
 have pm:=hp (k % 4) (by omega)
 simp only[za9,Bool.and_eq_true,List.all_eq_true,List.mem_range] at h
 have h3:=h.2 k hk
 simp only[okB,Bool.or_eq_true,Bool.and_eq_true,noneB,beq_iff_eq] at h3
 rcases h3 with h3 | h3
 ·omega
 ·have hb:G.back k=4*G.T k+G.P k (k % 4):=by simp[Gl.back,Gl.T,Gl.P]
  have hm:=h3.2
  simp only[matchB,Bool.and_eq_true,beq_iff_eq,hb] at hm
  obtain⟨m1,m2⟩:=hm
  have m3:=all4_iff.1 m2
  refine⟨by omega,by omega,by simp[Gl.T] at *;omega,fun i hi=>?_⟩
  have hq:=hp i hi
  have e:=m3 (G.P k i) hq.2
  simp only[beq_iff_eq] at e
  show (G.pm _ (G.P k i)).toNat=i
  rw[e]
  have g:∀j,j<4→(G.p k j).toNat=G.P k j:=fun j hj=>by rw[show G.p k j=G.pm k j from rfl,(hp j hj).1];rfl
  simp only[invF,invK,upd,g 0 (by omega),g 1 (by omega),g 2 (by omega),g 3 (by omega)]
  have i01:=hinj 0 1 (by omega) (by omega) (by omega)
  have i02:=hinj 0 2 (by omega) (by omega) (by omega)
  have i03:=hinj 0 3 (by omega) (by omega) (by omega)
  have i12:=hinj 1 2 (by omega) (by omega) (by omega)
  have i13:=hinj 1 3 (by omega) (by omega) (by omega)
  have i23:=hinj 2 3 (by omega) (by omega) (by omega)
  have:i=0∨i=1∨i=2∨i=3:=by omega
  rcases this with rfl | rfl | rfl | rfl<;>simp[i01,i02,i03,i12,i13,i23]
theorem stp_ok {G:Gl}(h:za9 G=true){l:Nat}{s s':RS}(hs:Rok G.n s)(e:stp G l s=some s'):Rok G.n s':=by
 have hl:=rp_lt hs l
 have ht:=hs.t
 unfold stp at e
 split at e
 ·cases e
 ·next hn=>
  have hk:4*s.1+rp s l<4*G.n:=by omega
  obtain⟨h1,h2,hp⟩:=zc6 h hk hn
  have hinj:=ok_inj h hk hn
  obtain⟨a,b,c,d⟩:=hs.l
  obtain⟨d1,d2,d3,d4,d5,d6⟩:=hs.d
  simp only[Option.some.injEq] at e
  subst e
  exact⟨h2,⟨(hp _ a).2,(hp _ b).2,(hp _ d).2,(hp _ c).2⟩,⟨hinj _ _ a b d1,hinj _ _ a d d3,hinj _ _ a c d2,hinj _ _ b d d5,hinj _ _ b c d4,hinj _ _ d c (Ne.symm d6)⟩⟩
theorem stp_back {G:Gl}(h:za9 G=true){l m:Nat}(hlm:(l=2∧m=3)∨(l=3∧m=2)){s s':RS}(hs:Rok G.n s)(e:stp G l s=some s'):stp G m s'=some s:=by
 have hl:=rp_lt hs l
 have ht:=hs.t
 unfold stp at e
 split at e
 ·cases e
 ·next hn=>
  have hk:4*s.1+rp s l<4*G.n:=by omega
  have hmod:(4*s.1+rp s l) % 4=rp s l:=by omega
  have hdiv:(4*s.1+rp s l) / 4=s.1:=by omega
  obtain⟨b1,b2,b3,b4⟩:=ok_back h hk hn
  rw[hmod] at b1 b2 b3 b4
  rw[hdiv] at b3
  obtain⟨a,b,c,d⟩:=hs.l
  simp only[Option.some.injEq] at e
  have hr:rp s' m=G.P (4*s.1+rp s l) (rp s l):=by
   subst e
   rcases hlm with ⟨rfl,rfl⟩ | ⟨rfl,rfl⟩<;>simp[rp]
  have h1:s'.1=G.T (4*s.1+rp s l):=by rw[←e]
  have e1:s'.2.1=G.P (4*s.1+rp s l) s.2.1:=by rw[←e]
  have e2:s'.2.2.1=G.P (4*s.1+rp s l) s.2.2.1:=by rw[←e]
  have e3:s'.2.2.2.1=G.P (4*s.1+rp s l) s.2.2.2.2:=by rw[←e]
  have e4:s'.2.2.2.2=G.P (4*s.1+rp s l) s.2.2.2.1:=by rw[←e]
  unfold stp
  rw[hr,h1,if_neg b2,e1,e2,e3,e4,b3,b4 _ a,b4 _ b,b4 _ c,b4 _ d]
def itr (G:Gl)(l:Nat)(s:RS):Nat→Option RS
 | 0=>some s
 | i+1=>(itr G l s i).bind (stp G l)
theorem itr_add (G:Gl)(l:Nat)(s:RS)(i j:Nat):itr G l s (i+j)=(itr G l s i).bind fun u=>itr G l u j:=by
 induction j with
 | zero=>cases h:itr G l s i<;>simp[itr]
 | succ j ih=>
  rw[show i+(j+1)=(i+j)+1 by omega,itr,ih]
  cases h:itr G l s i<;>simp[itr]
theorem zg9 {G:Gl}{l:Nat}{s:RS}{i j:Nat}(h:itr G l s i=none)(hj:i≤j):itr G l s j=none:=by
 obtain⟨k,rfl⟩:∃k,j=i+k:=⟨j-i,by omega⟩
 rw[itr_add,h];rfl
theorem zf7 {G:Gl}(h:za9 G=true){l:Nat}{s:RS}(hs:Rok G.n s):∀{i:Nat} {u:RS},itr G l s i=some u→Rok G.n u:=by
 intro i
 induction i with
 | zero=>intro u e;simp[itr] at e;subst e;exact hs
 | succ i ih=>
  intro u e
  simp only[itr,Option.bind_eq_some_iff] at e
  obtain⟨x,e1,e2⟩:=e
  exact stp_ok h (ih e1) e2
theorem itr_back {G:Gl}(h:za9 G=true){l m:Nat}(hlm:(l=2∧m=3)∨(l=3∧m=2)){s:RS}(hs:Rok G.n s):∀{i:Nat} {u:RS},itr G l s i=some u→itr G m u i=some s:=by
 intro i
 induction i with
 | zero=>intro u e;simp[itr] at e;subst e;rfl
 | succ i ih=>
  intro u e
  simp only[itr,Option.bind_eq_some_iff] at e
  obtain⟨x,e1,e2⟩:=e
  have hb:=stp_back h hlm (zf7 h hs e1) e2
  rw[show i+1=1+i by omega,itr_add]
  simp[itr,hb,ih e1]
theorem pigeon (f:Nat→Nat):∀n,(∀i,i≤n→f i<n)→∃i j,i<j∧j≤n∧f i=f j:=by
 intro n
 induction n generalizing f with
 | zero=>intro h;have:=h 0 (by omega);omega
 | succ n ih=>
  intro h
  by_cases hc:∃i,i≤n∧f i=f (n+1)
  ·obtain⟨i,hi,e⟩:=hc
   exact⟨i,n+1,by omega,by omega,e⟩
  ·have hlast:=h (n+1) (by omega)
   obtain⟨i,j,hij,hj,e⟩:=ih (fun i=>if f i=n then f (n+1) else f i) (fun i hi=>by
    have h1:=h i (by omega)
    have h2:f i≠f (n+1):=fun e=>hc ⟨i,hi,e⟩
    show (if f i=n then f (n+1) else f i)<n
    split
    ·omega
    ·omega)
   refine⟨i,j,hij,by omega,?_⟩
   have hi2:f i≠f (n+1):=fun e=>hc ⟨i,by omega,e⟩
   have hj2:f j≠f (n+1):=fun e=>hc ⟨j,hj,e⟩
   split at e<;>split at e<;>omega
def rcode (s:RS):Nat:=(((s.1*4+s.2.1)*4+s.2.2.1)*4+s.2.2.2.1)*4+s.2.2.2.2
theorem rcode_lt {n:Nat}{s:RS}(h:Rok n s):rcode s<256*n:=by
 obtain⟨a,b,c,d⟩:=h.l
 have:=h.t
 unfold rcode;omega
theorem rcode_inj {n:Nat}{s u:RS}(h:Rok n s)(k:Rok n u)(e:rcode s=rcode u):s=u:=by
 obtain⟨a,b,c,d⟩:=h.l
 obtain⟨a',b',c',d'⟩:=k.l
 unfold rcode at e
 refine Prod.ext (by omega) (Prod.ext ?_ (Prod.ext ?_ (Prod.ext ?_ ?_)))<;>omega
theorem itr_ends {G:Gl}(h:za9 G=true){l m:Nat}(hlm:(l=2∧m=3)∨(l=3∧m=2)){s:RS}(hs:Rok G.n s):∃k,0<k∧k≤256*G.n∧(itr G l s k=none∨itr G l s k=some s):=by
 have hpos:0<G.n:=by have:=hs.t;omega
 by_cases hc:itr G l s (256*G.n)=none
 ·exact⟨256*G.n,by omega,Nat.le_refl _,.inl hc⟩
 ·have hall:∀i,i≤256*G.n→∃u,itr G l s i=some u:=fun i hi=>by
   cases e:itr G l s i with
   | none=>exact absurd (zg9 e hi) hc
   | some u=>exact⟨u,rfl⟩
  obtain⟨i,j,hij,hj,e⟩:=pigeon (fun i=>(itr G l s i).elim 0 rcode) (256*G.n) (fun i hi=>by
   obtain⟨u,hu⟩:=hall i hi
   simp only[hu,Option.elim]
   exact rcode_lt (zf7 h hs hu))
  obtain⟨u,hu⟩:=hall i (by omega)
  obtain⟨v,hv⟩:=hall j hj
  simp only[hu,hv,Option.elim] at e
  have huv:=rcode_inj (zf7 h hs hu) (zf7 h hs hv) e
  subst huv
  have b1:=itr_back h hlm hs hu
  have hj2:j=(j-i)+i:=by omega
  have b2:=itr_back h hlm hs hv
  obtain⟨x,hx⟩:=hall (j-i) (by omega)
  have hxv:itr G l x i=some u:=by
   have:=itr_add G l s (j-i) i
   rw[←hj2,hv,hx] at this
   simpa using this.symm
  have b3:=itr_back h hlm (zf7 h hs hx) hxv
  rw[b1] at b3
  simp only[Option.some.injEq] at b3
  exact⟨j-i,by omega,by omega,.inr (by rw[hx,b3])⟩
theorem itr_mul {G:Gl}{l:Nat}{s:RS}{k:Nat}(hk:itr G l s k=some s)(q:Nat):itr G l s (q*k)=some s:=by
 induction q with
 | zero=>simp[itr]
 | succ q ih=>rw[Nat.succ_mul,itr_add,ih];exact hk
theorem itr_other {G:Gl}(h:za9 G=true){l m:Nat}(hlm:(l=2∧m=3)∨(l=3∧m=2)){s:RS}(hs:Rok G.n s){k:Nat}(hk:itr G l s k=none):∃j,j≤256*G.n∧itr G m s j=none:=by
 have hlm':(m=2∧l=3)∨(m=3∧l=2):=by omega
 obtain⟨j,hj,hj2,e | e⟩:=itr_ends h hlm' hs
 ·exact⟨j,hj2,e⟩
 ·have b:=itr_back h hlm' hs e
  have hq:=itr_mul b k
  have:itr G l s (k*j)=none:=zg9 hk (Nat.le_mul_of_pos_right k hj)
  rw[this] at hq
  cases hq
end
end Go.Proofs.Ytlckpgahijlmoaa
