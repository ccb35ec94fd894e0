/- The walks of glue's small functions on permutations: what each returns, for every argument; no condition but the one that each states. -/
import Derived.Test.YtlckpgahijlmoaaQ01
import Derived.Lib.Hide
import Derived.StillTailTactics
set_option maxRecDepth 100000
set_option maxHeartbeats 8000000
namespace Go.Proofs.Ytlckpgahijlmoaa
section
theorem nrm {α:Type}:(∀(l:List α) (i:Nat) (a:α),l.toArray.setIfInBounds i a=(l.set i a).toArray)∧(∀(l:List α) (i:Nat) (h:i<l.toArray.size),l.toArray[i]=l[i]'(by simpa using h))∧(∀(a:α) (l:List α) (i:Nat) (h:i+1<(a :: l).length),(a :: l)[i+1]=l[i]'(by simpa using h))∧(∀(a:α) (l:List α) (h:0<(a :: l).length),(a :: l)[0]=a)∧(∀(a b:α) (l:List α) (i:Nat),(a :: l).set (i+1) b=a :: l.set i b)∧(∀(a b:α) (l:List α),(a :: l).set 0 b=b :: l):=
 ⟨fun _ _ _=>by simp,fun _ _ _=>rfl,fun _ _ _ _=>rfl,fun _ _ _=>rfl,fun _ _ _ _=>rfl,fun _ _ _=>rfl⟩
theorem Hd2 {p0 p1:Prop}(h0:p0)(h1:p1):Go.RowKit.Hid (p0∧p1):=Lib.hid ⟨h0,h1⟩
theorem Hd3 {p0 p1 p2:Prop}(h0:p0)(h1:p1)(h2:p2):Go.RowKit.Hid (p0∧p1∧p2):=Lib.hid ⟨h0,h1,h2⟩
theorem Hd4 {p0 p1 p2 p3:Prop}(h0:p0)(h1:p1)(h2:p2)(h3:p3):Go.RowKit.Hid (p0∧p1∧p2∧p3):=Lib.hid ⟨h0,h1,h2,h3⟩
theorem Hd5 {p0 p1 p2 p3 p4:Prop}(h0:p0)(h1:p1)(h2:p2)(h3:p3)(h4:p4):Go.RowKit.Hid (p0∧p1∧p2∧p3∧p4):=Lib.hid ⟨h0,h1,h2,h3,h4⟩
theorem Hd6 {p0 p1 p2 p3 p4 p5:Prop}(h0:p0)(h1:p1)(h2:p2)(h3:p3)(h4:p4)(h5:p5):Go.RowKit.Hid (p0∧p1∧p2∧p3∧p4∧p5):=Lib.hid ⟨h0,h1,h2,h3,h4,h5⟩
theorem Hd7 {p0 p1 p2 p3 p4 p5 p6:Prop}(h0:p0)(h1:p1)(h2:p2)(h3:p3)(h4:p4)(h5:p5)(h6:p6):Go.RowKit.Hid (p0∧p1∧p2∧p3∧p4∧p5∧p6):=Lib.hid ⟨h0,h1,h2,h3,h4,h5,h6⟩
theorem Hd8 {p0 p1 p2 p3 p4 p5 p6 p7:Prop}(h0:p0)(h1:p1)(h2:p2)(h3:p3)(h4:p4)(h5:p5)(h6:p6)(h7:p7):Go.RowKit.Hid (p0∧p1∧p2∧p3∧p4∧p5∧p6∧p7):=Lib.hid ⟨h0,h1,h2,h3,h4,h5,h6,h7⟩
theorem Hd9 {p0 p1 p2 p3 p4 p5 p6 p7 p8:Prop}(h0:p0)(h1:p1)(h2:p2)(h3:p3)(h4:p4)(h5:p5)(h6:p6)(h7:p7)(h8:p8):Go.RowKit.Hid (p0∧p1∧p2∧p3∧p4∧p5∧p6∧p7∧p8):=Lib.hid ⟨h0,h1,h2,h3,h4,h5,h6,h7,h8⟩
theorem Hd10 {p0 p1 p2 p3 p4 p5 p6 p7 p8 p9:Prop}(h0:p0)(h1:p1)(h2:p2)(h3:p3)(h4:p4)(h5:p5)(h6:p6)(h7:p7)(h8:p8)(h9:p9):Go.RowKit.Hid (p0∧p1∧p2∧p3∧p4∧p5∧p6∧p7∧p8∧p9):=Lib.hid ⟨h0,h1,h2,h3,h4,h5,h6,h7,h8,h9⟩
theorem Hd11 {p0 p1 p2 p3 p4 p5 p6 p7 p8 p9 p10:Prop}(h0:p0)(h1:p1)(h2:p2)(h3:p3)(h4:p4)(h5:p5)(h6:p6)(h7:p7)(h8:p8)(h9:p9)(h10:p10):Go.RowKit.Hid (p0∧p1∧p2∧p3∧p4∧p5∧p6∧p7∧p8∧p9∧p10):=Lib.hid ⟨h0,h1,h2,h3,h4,h5,h6,h7,h8,h9,h10⟩
theorem Hd12 {p0 p1 p2 p3 p4 p5 p6 p7 p8 p9 p10 p11:Prop}(h0:p0)(h1:p1)(h2:p2)(h3:p3)(h4:p4)(h5:p5)(h6:p6)(h7:p7)(h8:p8)(h9:p9)(h10:p10)(h11:p11):Go.RowKit.Hid (p0∧p1∧p2∧p3∧p4∧p5∧p6∧p7∧p8∧p9∧p10∧p11):=Lib.hid ⟨h0,h1,h2,h3,h4,h5,h6,h7,h8,h9,h10,h11⟩
theorem Hd13 {p0 p1 p2 p3 p4 p5 p6 p7 p8 p9 p10 p11 p12:Prop}(h0:p0)(h1:p1)(h2:p2)(h3:p3)(h4:p4)(h5:p5)(h6:p6)(h7:p7)(h8:p8)(h9:p9)(h10:p10)(h11:p11)(h12:p12):Go.RowKit.Hid (p0∧p1∧p2∧p3∧p4∧p5∧p6∧p7∧p8∧p9∧p10∧p11∧p12):=Lib.hid ⟨h0,h1,h2,h3,h4,h5,h6,h7,h8,h9,h10,h11,h12⟩
theorem Hd14 {p0 p1 p2 p3 p4 p5 p6 p7 p8 p9 p10 p11 p12 p13:Prop}(h0:p0)(h1:p1)(h2:p2)(h3:p3)(h4:p4)(h5:p5)(h6:p6)(h7:p7)(h8:p8)(h9:p9)(h10:p10)(h11:p11)(h12:p12)(h13:p13):Go.RowKit.Hid (p0∧p1∧p2∧p3∧p4∧p5∧p6∧p7∧p8∧p9∧p10∧p11∧p12∧p13):=Lib.hid ⟨h0,h1,h2,h3,h4,h5,h6,h7,h8,h9,h10,h11,h12,h13⟩
open Go.RowKit
def upd (f:Nat→Int)(k:Nat)(v:Int):Nat→Int:=fun i=>if i=k then v else f i
theorem zb2 {w W:World}(h:Below w.heap.size w W)(o:Obj):Below w.heap.size w (W.alloc o):=h.alloc h.size o
theorem za7 {w W w':World}(h:Below w.heap.size w W)(k:Below W.heap.size W w'):Below w.heap.size w w':=h.trans (k.mono h.size)
theorem bcell {W w1:World}(hb:Below W.heap.size W w1):(∀b o,b<W.heap.size→w1.cell? ⟨b,o,none⟩=W.cell? ⟨b,o,none⟩)∧(∀b o,b<W.heap.size→w1.frozen? ⟨b,o,none⟩=W.frozen? ⟨b,o,none⟩):=
 ⟨fun b o h=>hb.cell (p:=⟨b,o,none⟩) h,fun b o h=>hb.frozen (p:=⟨b,o,none⟩) h⟩
theorem za5 {B:Nat}{w W:World}(h:Below B w W):Below B w W.drew:=⟨h.os,h.tape,h.output,h.size,h.block⟩
theorem zb1 {w W:World}{a:Addr}(h:Below w.heap.size w W)(hb:w.heap.size≤a.block)(v:Value):Below w.heap.size w (W.setCell a v):=h.setCell hb v
def inB (x:Int):Bool:=decide (0≤x) && decide (x≤3)
theorem zf2 {x:Int}:inB x=true↔0≤x∧x≤3:=by simp[inB]
def maskF (p:Nat→Int):Nat→Nat
 | 0=>0
 | k+1=>maskF p k ||| (1 <<< (p k).toNat)
def all4 (f:Nat→Bool):Bool:=f 0 && f 1 && f 2 && f 3
theorem all4_iff {f:Nat→Bool}:all4 f=true↔∀i,i<4→f i=true:=by
 constructor
 ·intro h i hi
  simp[all4] at h
  match i,hi with
  | 0,_=>exact h.1.1.1
  | 1,_=>exact h.1.1.2
  | 2,_=>exact h.1.2
  | 3,_=>exact h.2
 ·intro h
  simp[all4,h 0,h 1,h 2,h 3]
def zc9 (p:Nat→Int):Bool:=all4 (fun i=>inB (p i)) && maskF p 4==15
theorem maskF_lt (p:Nat→Int)(k:Nat)(h:∀j,j<k→inB (p j)=true):maskF p k<16:=by
 induction k with
 | zero=>simp[maskF]
 | succ k ih=>
  have h1:=ih (fun j hj=>h j (by omega))
  have h2:=zf2.1 (h k (by omega))
  have h3:1 <<< (p k).toNat<2 ^ 4:=by
   have:(p k).toNat<4:=by omega
   rw[Nat.one_shiftLeft];exact Nat.pow_lt_pow_right (by omega) this
  exact Nat.or_lt_two_pow (n:=4) h1 h3
theorem bits_or_small (a b:Nat)(ha:a<16)(hb:b<16):bits .or .i64 (a:Int) (b:Int)=((a ||| b:Nat):Int):=by
 have:∀a:Fin 16,∀b:Fin 16,bits .or .i64 ((a.val:Nat):Int) ((b.val:Nat):Int)=((a.val ||| b.val:Nat):Int):=by decide +kernel
 exact this ⟨a,ha⟩ ⟨b,hb⟩
theorem wrap_pow2 (x:Int)(h:0≤x∧x≤3):wrap64 (2 ^ x.toNat)=((1 <<< x.toNat:Nat):Int):=by
 obtain⟨n,rfl⟩:∃n:Nat,x=n:=⟨x.toNat,by omega⟩
 have:n=0∨n=1∨n=2∨n=3:=by omega
 rcases this with rfl | rfl | rfl | rfl<;>simp[wrap64]
def P4 (p:Nat→Int):Array Value:=#[.int .i64 (p 0),.int .i64 (p 1),.int .i64 (p 2),.int .i64 (p 3)]
theorem P4_get (p:Nat→Int)(k:Nat)(hk:k<4):(P4 p)[k]?=some (.int .i64 (p k)):=by
 match k,hk with
 | 0,_=>rfl
 | 1,_=>rfl
 | 2,_=>rfl
 | 3,_=>rfl
theorem P4_getE (p:Nat→Int)(k:Nat)(h:k<[Value.int .i64 (p 0),.int .i64 (p 1),.int .i64 (p 2),.int .i64 (p 3)].length):[Value.int .i64 (p 0),.int .i64 (p 1),.int .i64 (p 2),.int .i64 (p 3)][k]=.int .i64 (p k):=by
 match k,h with
 | 0,_=>rfl
 | 1,_=>rfl
 | 2,_=>rfl
 | 3,_=>rfl
theorem P4_index (p:Nat→Int)(k:Nat)(hk:k<4)(w:World):(Instr.index 85 (.agg #[.int .i64 (p 0),.int .i64 (p 1),.int .i64 (p 2),.int .i64 (p 3)]) (.int .i64 (k:Int))).run Try.prog w=.ok (.int .i64 (p k)) w:=
 run_index_cell (n:=4) (d:=.int .i64) Try.underlying85 Try.underlying3 rfl (by kernel_rfl) _ _ _ hk _ (P4_get _ _ hk) w
theorem ret_bool {a b:Bool}(h:a=b):Ending.returned (.bool a)=.returned (.bool b):=by rw[h]
theorem valid_walk (p:Nat→Int)(w:World) :
  Calls Try.prog 82 #[.agg #[Value.int .i64 (p 0),Value.int .i64 (p 1),Value.int .i64 (p 2),Value.int .i64 (p 3)]] w fun e w'=>e=.returned (.bool (zc9 p))∧Below w.heap.size w w':=by
 go_enter Try.func82,Try.ntmps82
 go_wp2
 go_loop [3,7] (fun m i=>∃k:Nat,k≤4∧i=.int .i64 k∧m=.int .i64 (maskF p k)∧∀j,j<k→inB (p j)=true) (fun _ i=>4-(intOf i).toNat)
 case atStart=>exact⟨0,by omega,rfl,rfl,by omega⟩
 case round=>
  obtain⟨k,hk,rfl,rfl,hb⟩:=hrel
  by_cases h4:k<4
  ·have hix:=fun w=>P4_index p k h4 w
   by_cases hin:inB (p k)=true
   ·have hp:=zf2.1 hin
    have hp1:=hp.1
    have hp2:=hp.2
    clear hp
    go_wp2
    go_round
    case rel=>
     refine⟨k+1,by omega,by go_num,?_,?_⟩
     ·rw[wrap_pow2 _ ⟨hp1,hp2⟩,bits_or_small _ _ (maskF_lt p k hb)]
      ·rfl
      ·exact Nat.lt_of_le_of_lt (Nat.right_le_or) (maskF_lt p (k+1) (fun j hj=>by
        by_cases e:j=k
        ·rw[e];exact hin
        ·exact hb j (by omega)))
     ·intro j hj
      by_cases e:j=k
      ·rw[e];exact hin
      ·exact hb j (by omega)
    case measure=>simp[intOf];omega
   ·have hf:Hid (zc9 p=false):=Lib.hid (by
     have:all4 (fun i=>inB (p i))≠true:=fun h=>hin (all4_iff.1 h k h4)
     simp at this
     simp[zc9,this])
    by_cases hz:p k<0
    ·clear hin
     go_wp2
     go_ret;exact⟨ret_bool hf.out.symm,(Below.refl _ _).alloc (Nat.le_refl _) _⟩
    ·have hz2:3<p k:=by have:=mt zf2.2 hin;omega
     have hz1:0≤p k:=by omega
     clear hin hz
     go_wp2
     go_ret;exact⟨ret_bool hf.out.symm,(Below.refl _ _).alloc (Nat.le_refl _) _⟩
  ·have hk4:4≤k:=by omega
   clear h4
   go_wp2
   go_ret
   obtain rfl:k=4:=by omega
   refine⟨ret_bool ?_,(Below.refl _ _).alloc (Nat.le_refl _) _⟩
   have:all4 (fun i=>inB (p i))=true:=all4_iff.2 hb
   rw[zc9,this]
   have:((maskF p 4:Int)==15)=(maskF p 4==15):=by
    rw[Bool.eq_iff_iff];simp;omega
   simpa using this
theorem setP4l (q:Nat→Int)(k:Nat)(v:Int)(hk:k<4):([Value.int .i64 (q 0),.int .i64 (q 1),.int .i64 (q 2),.int .i64 (q 3)].set k (.int .i64 v)).toArray=P4 (upd q k v):=by
 match k,hk with
 | 0,_=>simp[P4,upd]
 | 1,_=>simp[P4,upd]
 | 2,_=>simp[P4,upd]
 | 3,_=>simp[P4,upd]
theorem cell_P4 (w:World)(q:Nat→Int)(t:TypeId)(k:Nat)(hk:k<4) :
  (w.alloc (.cells #[.int .i64 (q 0),.int .i64 (q 1),.int .i64 (q 2),.int .i64 (q 3)] t)).cell? ⟨w.heap.size,k,none⟩=some (.int .i64 (q k)):=by
 rw[cell_of_row _ _ _ _ _ _ (heap_alloc_last w _)];exact P4_get q k hk
def invK (p:Nat→Int):Nat→Nat→Int
 | 0=>fun _=>0
 | k+1=>upd (invK p k) (p k).toNat k
def invF (p:Nat→Int):Nat→Int:=invK p 4
theorem inverse_walk (p:Nat→Int)(w:World)(hp:∀i,i<4→inB (p i)=true) :
  Calls Try.prog 97 #[.agg #[Value.int .i64 (p 0),Value.int .i64 (p 1),Value.int .i64 (p 2),Value.int .i64 (p 3)]] w fun e w'=>e=.returned (.agg #[Value.int .i64 (invF p 0),Value.int .i64 (invF p 1),Value.int .i64 (invF p 2),Value.int .i64 (invF p 3)])∧Below w.heap.size w w':=by
 have H:=Lib.hid hp;clear hp
 go_enter Try.func97,Try.ntmps97
 go_wp2
 go_loopw [4,5,7] (fun _ _ i wr=>∃k:Nat,k≤4∧i=.int .i64 k∧wr=((w.alloc (.cells #[.int .i64 (p 0),.int .i64 (p 1),.int .i64 (p 2),.int .i64 (p 3)] 85)).alloc (.cells #[.int .i64 0,.int .i64 0,.int .i64 0,.int .i64 0] 85)).alloc (.cells #[.int .i64 (invK p k 0),.int .i64 (invK p k 1),.int .i64 (invK p k 2),.int .i64 (invK p k 3)] 85)) (fun _ _ i _=>4-(intOf i).toNat)
 case atStart=>exact⟨0,by omega,rfl,rfl⟩
 case round=>
  obtain⟨k,hk,rfl,rfl⟩:=hrel
  by_cases h4:k<4
  ·have hix:=fun w=>P4_index p k h4 w
   have hb:=zf2.1 (H.out k h4)
   have hb1:=hb.1
   have hb2:=hb.2
   clear hb
   have hc:=cell_P4 ((w.alloc (.cells #[.int .i64 (p 0),.int .i64 (p 1),.int .i64 (p 2),.int .i64 (p 3)] 85)).alloc (.cells #[.int .i64 0,.int .i64 0,.int .i64 0,.int .i64 0] 85)) (invK p k) 85 (p k).toNat (by omega)
   simp only[World.size_alloc] at hc
   go_wp2
   go_roundw
   case rel=>
    refine⟨k+1,by omega,by go_num,?_⟩
    have:=setP4l (invK p k) (p k).toNat k (by omega)
    rw[this]
    rfl
   case measure=>simp[intOf];omega
  ·have hk4:4≤k:=by omega
   have hb:Below w.heap.size w ((w.alloc (.cells #[.int .i64 (p 0),.int .i64 (p 1),.int .i64 (p 2),.int .i64 (p 3)] 85)).alloc (.cells #[.int .i64 0,.int .i64 0,.int .i64 0,.int .i64 0] 85)):=((Below.refl _ _).alloc (Nat.le_refl _) _).alloc (by simp) _
   clear h4
   go_wp2
   obtain rfl:k=4:=by omega
   refine bodyPost_ret (v:=.agg (P4 (invK p 4))) (by simp[results,Try.results97,go_sem,P4]) rfl ⟨rfl,?_⟩
   (repeat' (first | assumption | exact Below.refl _ _ | refine za7 ?_ (by assumption) | refine zb2 ?_ _ | refine za5 ?_ | refine zb1 ?_ (by simp<;>omega) _))
theorem zc1 {P:Program}{id:Nat}{Q:Exit→Act→World→Prop}{a:Act}{w:World}{l:List Oper}(n:Nat)(hm:P.follows .mixedOrders=true)(hB:Region.lexTailB .any l.toArray n=true)
  (h:wpStill P l.toArray w.drew (fun a'=>wpList P l.toArray Q (l.drop n) a' w.drew) (l.take n) a):(Code.region id l.toArray true).wp P Q a w:=wp_region_still_tail n hm hB h
def compF (p q:Nat→Int):Nat→Int:=fun i=>p (q i).toNat
theorem compose_walk (p q:Nat→Int)(w:World)(hq:∀i,i<4→inB (q i)=true) :
  Calls Try.prog 133 #[.agg #[Value.int .i64 (p 0),Value.int .i64 (p 1),Value.int .i64 (p 2),Value.int .i64 (p 3)],.agg #[Value.int .i64 (q 0),Value.int .i64 (q 1),Value.int .i64 (q 2),Value.int .i64 (q 3)]] w fun e w'=>e=.returned (.agg #[Value.int .i64 (compF p q 0),Value.int .i64 (compF p q 1),Value.int .i64 (compF p q 2),Value.int .i64 (compF p q 3)])∧Below w.heap.size w w':=by
 have h0:=zf2.1 (hq 0 (by omega))
 have h1:=zf2.1 (hq 1 (by omega))
 have h2:=zf2.1 (hq 2 (by omega))
 have h3:=zf2.1 (hq 3 (by omega))
 obtain⟨a0,b0⟩:=h0
 obtain⟨a1,b1⟩:=h1
 obtain⟨a2,b2⟩:=h2
 obtain⟨a3,b3⟩:=h3
 clear hq
 have c0:=fun h=>P4_getE p (q 0).toNat h
 have c1:=fun h=>P4_getE p (q 1).toNat h
 have c2:=fun h=>P4_getE p (q 2).toNat h
 have c3:=fun h=>P4_getE p (q 3).toNat h
 replace b0:q 0<4:=by omega
 replace b1:q 1<4:=by omega
 replace b2:q 2<4:=by omega
 replace b3:q 3<4:=by omega
 go_enter Try.func133,Try.ntmps133
 go_wp2
 refine zc1 17 (by kernel_rfl) (by kernel_rfl) ?_
 simp only[List.take_succ_cons,List.take_zero,List.drop_succ_cons,List.drop_zero]
 repeat (refine wpStill_step (fun K hK=>?_);go_simp;refine hK _ ?_;clear hK K)
 refine wpStill_nil ?_
 go_wp2
 exact bodyPost_ret (v:=.agg (P4 (compF p q))) (by simp[results,Try.results133,go_sem,P4,compF]) rfl ⟨rfl,by (repeat' (first | assumption | exact Below.refl _ _ | refine za7 ?_ (by assumption) | refine zb2 ?_ _ | refine za5 ?_ | refine zb1 ?_ (by simp<;>omega) _))⟩
theorem Compose_walk (p q:Nat→Int)(w:World)(hp:zc9 p=true)(hq:zc9 q=true) :
  Calls Try.prog 132 #[.agg #[Value.int .i64 (p 0),Value.int .i64 (p 1),Value.int .i64 (p 2),Value.int .i64 (p 3)],.agg #[Value.int .i64 (q 0),Value.int .i64 (q 1),Value.int .i64 (q 2),Value.int .i64 (q 3)]] w fun e w'=>e=.returned (.agg #[Value.int .i64 (compF p q 0),Value.int .i64 (compF p q 1),Value.int .i64 (compF p q 2),Value.int .i64 (compF p q 3)])∧Below w.heap.size w w':=by
 have hq1:=Lib.hid (all4_iff.1 (by simp[zc9] at hq;exact hq.1:all4 (fun i=>inB (q i))=true))
 go_enter Try.func132,Try.ntmps132
 go_wp2_with (first|(go_at_call 82;refine (valid_walk _ _).mono ?_;rintro e w' ⟨rfl,hb⟩;obtain⟨hc,hf⟩:=bcell hb;have z0:w.heap.size<w'.heap.size:=(by have hz:=hb.size;(try simp at hz);omega);have z1:w.heap.size+1<w'.heap.size:=(by have hz:=hb.size;(try simp at hz);omega);have z2:w.heap.size+1+1<w'.heap.size:=(by have hz:=hb.size;(try simp at hz);omega))|(go_at_call 133;refine (compose_walk _ _ _ hq1.out).mono ?_;rintro e w' ⟨rfl,hb⟩;obtain⟨hc,hf⟩:=bcell hb;have z0:w.heap.size<w'.heap.size:=(by have hz:=hb.size;(try simp at hz);omega);have z1:w.heap.size+1<w'.heap.size:=(by have hz:=hb.size;(try simp at hz);omega);have z2:w.heap.size+1+1<w'.heap.size:=(by have hz:=hb.size;(try simp at hz);omega)))
 exact bodyPost_ret (v:=.agg #[Value.int .i64 (compF p q 0),Value.int .i64 (compF p q 1),Value.int .i64 (compF p q 2),Value.int .i64 (compF p q 3)]) (by simp[results,Try.results132,go_sem, *]) rfl ⟨rfl,by (repeat' (first | assumption | exact Below.refl _ _ | refine za7 ?_ (by assumption) | refine zb2 ?_ _ | refine za5 ?_ | refine zb1 ?_ (by simp<;>omega) _))⟩
end
end Go.Proofs.Ytlckpgahijlmoaa
