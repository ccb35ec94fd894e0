/- skel's pairs, Edge and Ends. -/
import Derived.Test.YtlckpgahijlmoaaQ03
import Derived.Deep.OwnRows
import Derived.Deep.AppendLies
set_option maxRecDepth 100000
set_option maxHeartbeats 8000000
namespace Go.Proofs.Ytlckpgahijlmoaa
section
open Go.RowKit
theorem und35:Try.prog.underlying 35=some (.slice 3):=by kernel_rfl
theorem info3:(Try.prog.info? 3).map (fun i=>(i.zero,i.size,i.bytes))=some (some (.int .i64 0),1,8):=by kernel_rfl
abbrev zb7 (W:World) (b n:Nat) (f:Nat→Int):Prop:=W.rowIs b 3 n (fun i=>.int .i64 (f i))
theorem zc8 {B:Nat}{w w' w'':World}{b:Nat}(h:Below B w w')(g:w'.grownBy w'' (some b))(hb:B≤b)(hB:B≤w'.heap.size):Below B w w'':=
 h.trans ⟨g.os,g.tape,g.output,g.size,fun k hk=>g.block k (by omega) (fun e=>by cases e;omega)⟩
theorem zb3 {P:Program}{c:Code}{Q:Exit→Act→World→Prop}{a:Act}{w:World}(h:∀W,W=w→c.wp P Q a W):c.wp P Q a w:=h w rfl
theorem newUnion_walk (n:Nat)(hn:n≤1000000)(w:World) :
  Calls Try.prog 102 #[.int .i64 (n:Int)] w fun e w'=>∃b,e=.returned (.agg #[.slice (some ⟨b,0,none⟩) n n])∧w.heap.size≤b∧zb7 w' b n (fun i=>(i:Int))∧Below w.heap.size w w':=by
 have hmk:=run_make_row' (P:=Try.prog) 35 3 (.int .i64 0) 8 und35 info3 rfl .i64 .i64 n (by omega) (by omega)
 go_enter Try.func102,Try.ntmps102
 go_wp2
 refine zb3 fun W1 hW=>?_
 have hr:zb7 W1 (w.heap.size+1) n (fun i=>if i<0 then (i:Int) else 0):=by
  have:=World.rowIs_made (w.alloc (Obj.cells #[Value.slice none 0 0] 115)) (.int .i64 0) n 3
  simp only[World.size_alloc] at this
  rw[hW]
  exact (this.alloc _).congr (fun i _=>by simp)
 have hB:Below w.heap.size w W1:=by rw[hW];(repeat' (first | assumption | exact Below.refl _ _ | refine za7 ?_ (by assumption) | refine zb2 ?_ _ | refine za5 ?_ | refine zb1 ?_ (by simp<;>omega) _))
 have c2:W1.cell? ⟨w.heap.size+1+1,0,none⟩=some (.slice (some ⟨w.heap.size+1,0,none⟩) n n):=by rw[hW];simp[go_sem]
 have c0:W1.cell? ⟨w.heap.size,0,none⟩=some (.slice none 0 0):=by rw[hW];simp[go_sem]
 have f0:W1.frozen? ⟨w.heap.size,0,none⟩=false:=by rw[hW];simp[go_sem]
 have hs:W1.heap.size=w.heap.size+3:=by rw[hW];simp
 clear hmk hW
 generalize hN:w.heap.size=N at *
 have HB:=Lib.hid hB;have HR:=Lib.hid hr;clear hB hr
 go_loopw [11] (fun i wr=>∃k:Nat,k≤n∧i=.int .i64 k∧zb7 wr (N+1) n (fun i=>if i<k then (i:Int) else 0)∧W1.grownBy wr (some (N+1))) (fun i _=>n-(intOf i).toNat)
 case atStart=>exact⟨0,by omega,rfl,HR.out,zd2 _ _⟩
 case round=>
  obtain⟨k,hk,rfl,hu,hg⟩:=hrel
  have c2':=hg.cell c2 (by simp)
  have c0':=hg.cell c0 (by simp)
  have f0':=(hg.frozen_far ⟨N,0,none⟩ (by show N<_;omega) (by simp)).trans f0
  have HG:=Lib.hid hg;have HU:=Lib.hid hu
  clear hg
  rcases Nat.lt_or_ge k n with hkn | hkn
  ·have hf:=hu.frozen k
   have hc:=hu.cell hkn
   have HU:=Lib.hid hu
   clear hu
   go_wp2
   go_roundw
   case rel=>
    refine⟨k+1,by omega,rfl,?_,za2 HG.out (za1 _ _ _ _)⟩
    refine (HU.out.set k _).congr (fun i hi=>?_)
    by_cases e:i=k
    ·simp[e]
    ·have:i<k+1↔i<k:=by omega
     simp[e,this]
   case measure=>simp[intOf];omega
  ·clear hu
   have:k=n:=by omega
   subst this
   go_wp2
   refine bodyPost_ret (v:=.agg #[.slice (some ⟨N+1,0,none⟩) k k]) (by simp[results,Try.results102,go_sem, *]) rfl ⟨N+1,rfl,by omega,?_,?_⟩
   ·exact (HU.out.setOther (by simp) _).congr (fun i hi=>by simp[hi])
   ·subst hN;exact zb1 (zc8 HB.out HG.out (by omega) (by omega)) (by simp) _
theorem za0 {w:World}{a:Addr}{v:Value}(h:w.cell? a=some v):a.block<w.heap.size:=by
 rcases Nat.lt_or_ge a.block w.heap.size with e | e
 ·exact e
 ·simp[World.cell?,Array.getElem?_eq_none e] at h
theorem grownBy_fresh {w w':World}{row:Option Nat}(g:w.grownBy w' row)(a:Addr)(v:Value)(h:w.heap.size≤a.block):w.grownBy (w'.setCell a v) row:=
 ⟨g.os,g.tape,g.output,by simpa using g.size,fun k hk hne=>(Deep.blk_setCell_other _ _ _ _ (by omega)).trans (g.block k hk hne)⟩
theorem UF.setOther {W:World}{pb po b n:Nat}{r:Nat→Nat}(h:UF W pb po b n r)(a:Addr)(v:Value)(h1:b≠a.block)(h2:pb≠a.block):UF (W.setCell a v) pb po b n r:=
 ⟨by rw[World.cell?_of_block (w:=W) (Deep.blk_setCell_other _ _ _ _ h2)];exact h.ptr,h.ne,by obtain⟨u,hu,hr⟩:=h.row;exact⟨u,hu.setOther h1 _,hr⟩⟩
def cnt (r:Nat→Nat):Nat→Nat
 | 0=>0
 | i+1=>cnt r i+(if r i=i then 1 else 0)
theorem zg7 (r:Nat→Nat)(i:Nat):cnt r i≤i:=by
 induction i with
 | zero=>exact Nat.le_refl _
 | succ i ih=>simp only[cnt];split<;>omega
theorem UF.rfacts {W:World}{pb po b n:Nat}{r:Nat→Nat}(h:UF W pb po b n r):(∀i,i<n→r i≤i)∧(∀i,i<n→r (r i)=r i):=by
 obtain⟨u,_,hR⟩:=h.row
 exact⟨hR.rle,hR.idem⟩
theorem numbers_walk (pb po b n:Nat)(r:Nat→Nat)(hn:n≤1000000)(w:World)(hU:UF w pb po b n r) :
  Calls Try.prog 61 #[.pointer (some ⟨pb,po,none⟩)] w fun e w'=>∃d,e=.returned (.tuple #[.slice (some ⟨d,0,none⟩) n n,.int .i64 (cnt r n:Nat)])∧w.heap.size≤d∧zb7 w' d n (fun i=>(cnt r (r i):Nat))∧UF w' pb po b n r∧w.grownBy w' (some b):=by
 have hmk:=run_make_row' (P:=Try.prog) 35 3 (.int .i64 0) 8 und35 info3 rfl .i64 .i64 n (by omega) (by omega)
 have c0:=hU.ptr
 have hpb:pb<w.heap.size:=za0 c0
 have hbw:b<w.heap.size:=by obtain⟨u,hu,_⟩:=hU.row;exact hu.lt
 have HF:=Lib.hid hU.rfacts
 have HU:=Lib.hid hU;clear hU
 go_enter Try.func61,Try.ntmps61
 go_wp2
 refine zb3 fun W1 hW=>?_
 have hr:zb7 W1 w.heap.size n (fun i=>if i<0 then (cnt r (r i):Nat) else 0):=by
  rw[hW];exact (World.rowIs_made w (.int .i64 0) n 3).congr (fun i _=>by simp)
 have hU1:UF W1 pb po b n r:=hW▸HU.out.kept (row:=some w.heap.size) ⟨rfl,rfl,rfl,by simp,fun k hk _=>Below.heap_alloc _ _ _ hk⟩ (by simp;omega) (by
  have:=(HU.out.ptr);intro e;cases e;simp[World.cell?] at this)
 have hg:w.grownBy W1 (some b):=hW▸⟨rfl,rfl,rfl,by simp,fun k hk _=>Below.heap_alloc _ _ _ hk⟩
 have hs:w.heap.size<W1.heap.size:=by rw[hW];simp
 clear hmk hW
 generalize hN:w.heap.size=N at *
 have H1:=Hd3 hr hU1 hg;clear hr hU1 hg
 go_loopw [16,5] (fun i m wr=>∃k:Nat,k≤n∧i=.int .i64 k∧m=.int .i64 (cnt r k:Nat)∧zb7 wr N n (fun i=>if i<k then (cnt r (r i):Nat) else 0)∧UF wr pb po b n r∧w.grownBy wr (some b)) (fun i _ _=>n-(intOf i).toNat)
 case atStart=>exact⟨0,by omega,rfl,rfl,H1.out.1,H1.out.2.1,H1.out.2.2⟩
 case round=>
  obtain⟨k,hk,rfl,rfl,hu,hUk,hg⟩:=hrel
  have HK:=Hd3 hu hUk hg
  clear hu hUk hg
  rcases Nat.lt_or_ge k n with hkn | hkn
  ·go_wp2_with fail
   refine (root_walk pb po b n r k hkn hn _ HK.out.2.1).mono ?_
   rintro e w2 ⟨rfl,h2,g2⟩
   have hu2:=za3 HK.out.1 g2 (by simp;omega)
   have hrk:=HF.out.1 k hkn
   have hcl:=zg7 r k
   have hg2:=za2 HK.out.2.2 g2
   have hf:=hu2.frozen k
   have hc:=hu2.cell hkn
   have hc2:=hu2.cell (i:=r k) (by omega)
   have HK2:=Hd3 hu2 h2 hg2
   clear hu2 h2 g2 hg2
   by_cases e:r k=k
   ·have he:=zd0 e
    clear hc2
    have hcn:cnt r (k+1)=cnt r k+1:=by simp[cnt,e]
    have HE:=Hd2 e hcn;clear e hcn
    generalize hm:cnt r k=m at *
    generalize hrr:r k=rk at hrk he hc ⊢
    have HRR:=Lib.hid hrr;clear hrr
    go_wp2
    go_roundw
    case rel=>
     obtain⟨hu2,h2,hg2⟩:=HK2.out
     obtain⟨e,hcn⟩:=HE.out
     have hrk0:=HRR.out
     refine⟨k+1,by omega,rfl,by rw[hcn];rfl,(hu2.set k _).congr (fun i hi=>?_),h2.setOther _ _ (by simp;omega) (by simp;omega),grownBy_fresh hg2 _ _ (by simp;omega)⟩
     by_cases ei:i=k
     ·subst ei;simp[e,hm]
     ·have:i<k+1↔i<k:=by omega
      simp[ei,this]
    case measure=>simp[intOf];omega
   ·have he:=zc4 e
    have hlt:r k<k:=by omega
    simp only[hlt,if_true,HF.out.2 k hkn] at hc2
    have hcn:cnt r (k+1)=cnt r k:=by simp[cnt,e]
    have HE:=Hd2 e hcn;clear e hcn
    generalize hm:cnt r k=m at *
    generalize hrr:r k=rk at hrk hlt he hc2 ⊢
    have HRR:=Lib.hid hrr
    generalize hcr:cnt r rk=cr at *
    have hrkn:rk<n:=by omega
    have HCR:=Lib.hid hcr
    clear hrr hcr
    go_wp2
    go_roundw
    case rel=>
     obtain⟨hu2,h2,hg2⟩:=HK2.out
     obtain⟨e,hcn⟩:=HE.out
     have hrk0:=HRR.out
     refine⟨k+1,by omega,rfl,by rw[hcn],(hu2.set k _).congr (fun i hi=>?_),h2.setOther _ _ (by simp;omega) (by simp;omega),grownBy_fresh hg2 _ _ (by simp;omega)⟩
     by_cases ei:i=k
     ·subst ei;simp[hrk0,HCR.out]
     ·have:i<k+1↔i<k:=by omega
      simp[ei,this]
    case measure=>simp[intOf];omega
  ·have:k=n:=by omega
   subst this
   go_wp2
   go_ret2
   exact⟨N,rfl,by omega,HK.out.1.congr (fun i hi=>by simp[hi]),HK.out.2.1,HK.out.2.2⟩
end
section
open Go.RowKit
theorem run_equal_P2:∀(a0 a1 b0 b1:Int) (w:World),
  (Op.equalIn 10000 82 (.agg #[.int .i64 a0,.int .i64 a1]) (.agg #[.int .i64 b0,.int .i64 b1])).run Try.prog w=.ok (a0==b0 && a1==b1) w:=by
 intro a0 a1 b0 b1 w
 show (Op.equalIn (9998+1+1) 82 _ _).run Try.prog w=_
 unfold Op.equalIn
 simp only[Sem.run_bind,run_underlying Try.underlying82,Result.andThen,run_sizeOf' (P:=Try.prog) (e:=3) (s:=1) (by kernel_rfl)]
 have pa:∀(x0 x1:Int) (w:World),(part 3 #[.int .i64 x0,.int .i64 x1] 0).run Try.prog w=.ok (.int .i64 x0) w∧(part 3 #[.int .i64 x0,.int .i64 x1] 1).run Try.prog w=.ok (.int .i64 x1) w:=
  fun _ _ _=>⟨run_part_i _ _ _ rfl _,run_part_i _ _ _ rfl _⟩
 have he:=run_equalIn_i 9998
 by_cases h0:a0=b0<;>by_cases h1:a1=b1 <;>
  simp[forIn,ForIn.forIn,List.range',Sem.run_bind,pa,he,Result.andThen,h0,h1]
def pairsV:Array Value:=#[.int .i64 0,.int .i64 1,.int .i64 0,.int .i64 2,.int .i64 0,.int .i64 3,.int .i64 1,.int .i64 2,.int .i64 1,.int .i64 3,.int .i64 2,.int .i64 3]
def pA (k:Nat):Nat:=if k<3 then 0 else if k<5 then 1 else 2
def pB (k:Nat):Nat:=if k<3 then k+1 else if k<5 then k-1 else 3
theorem pairs_walk (w:World):Calls Try.prog 106 #[] w fun e w'=>e=.returned (.agg pairsV)∧Below w.heap.size w w':=by
 go_enter Try.func106,Try.ntmps106
 go_wp2
 exact bodyPost_ret (v:=.agg pairsV) (by simp[results,Try.results106,go_sem,pairsV]) rfl ⟨rfl,by (repeat' (first | assumption | exact Below.refl _ _ | refine za7 ?_ (by assumption) | refine zb2 ?_ _ | refine za5 ?_ | refine zb1 ?_ (by simp<;>omega) _))⟩
def mE (k:Nat)(i j:Int):Bool:=(((pA k:Nat):Int)==i && ((pB k:Nat):Int)==j) || (((pA k:Nat):Int)==j && ((pB k:Nat):Int)==i)
def edgeF (i j:Int):Int:=if mE 0 i j then 0 else if mE 1 i j then 1 else if mE 2 i j then 2 else if mE 3 i j then 3 else if mE 4 i j then 4 else if mE 5 i j then 5 else -1
theorem pairs_index (k:Nat)(hk:k<6):∀w,(Instr.index 175 (.agg pairsV) (.int .i64 (k:Int))).run Try.prog w=.ok (.agg #[.int .i64 (pA k:Nat),.int .i64 (pB k:Nat)]) w:=by
 intro w
 rw[run_index_row (P:=Try.prog) (t:=175) (e:=82) (n:=6) (s:=2) (d:=.array 2 3) Try.underlying175 Try.underlying82 rfl (by kernel_rfl) pairsV .i64 k hk w]
 have:k=0∨k=1∨k=2∨k=3∨k=4∨k=5:=by omega
 rcases this with rfl | rfl | rfl | rfl | rfl | rfl<;>rfl
theorem edgeF_at (k:Nat)(hk:k<6){i j:Int}(hm:∀e,e<k→mE e i j=false)(h:mE k i j=true):edgeF i j=k:=by
 have:k=0∨k=1∨k=2∨k=3∨k=4∨k=5:=by omega
 unfold edgeF
 rcases this with rfl | rfl | rfl | rfl | rfl | rfl
 ·simp[h]
 ·simp[h,hm 0]
 ·simp[h,hm 0,hm 1]
 ·simp[h,hm 0,hm 1,hm 2]
 ·simp[h,hm 0,hm 1,hm 2,hm 3]
 ·simp[h,hm 0,hm 1,hm 2,hm 3,hm 4]
theorem edgeF_none {i j:Int}(hm:∀e,e<6→mE e i j=false):edgeF i j=-1:=by
 unfold edgeF
 simp[hm 0,hm 1,hm 2,hm 3,hm 4,hm 5]
theorem Edge_walk (i j:Int)(w:World):Calls Try.prog 104 #[.int .i64 i,.int .i64 j] w fun e w'=>e=.returned (.int .i64 (edgeF i j))∧Below w.heap.size w w':=by
 have hE:=run_equal_P2
 go_enter Try.func104,Try.ntmps104
 go_wp2_with (go_at_call 106;refine (pairs_walk _).mono ?_;rintro e w1 ⟨rfl,hb⟩)
 have HB:=Lib.hid hb;clear hb
 go_loopw [8] (fun i' wr=>∃k:Nat,k≤6∧i'=.int .i64 k∧(∀e,e<k→mE e i j=false)∧Below w.heap.size w wr) (fun i _=>6-(intOf i).toNat)
 case atStart=>exact⟨0,by omega,rfl,fun e h=>absurd h (by omega),HB.out⟩
 case round=>
  obtain⟨k,hk,rfl,hm,hb⟩:=hrel
  have HK:=Hd2 hm hb;clear hm hb
  rcases Nat.lt_or_ge k 6 with hk6 | hk6
  ·have hix:∀w,(Instr.index 175 (.agg pairsV) (.int .i64 (k:Int))).run Try.prog w=.ok (.agg #[.int .i64 (pA k:Nat),.int .i64 (pB k:Nat)]) w:=pairs_index k hk6
   have hM:mE k i j=((((pA k:Nat):Int)==i && ((pB k:Nat):Int)==j) || (((pA k:Nat):Int)==j && ((pB k:Nat):Int)==i)):=rfl
   have h1:=fun w=>hE (pA k:Nat) (pB k:Nat) i j w
   have h2:=fun w=>hE (pA k:Nat) (pB k:Nat) j i w
   generalize ((pA k:Nat):Int)=a at *
   generalize ((pB k:Nat):Int)=b at *
   generalize hb1:(a==i && b==j)=b1 at *
   generalize hb2:(a==j && b==i)=b2 at *
   have HM:=Lib.hid hM
   clear hE hb1 hb2 hM
   cases b1
   ·cases b2
    ·go_wp2
     go_roundw
     case rel=>
      refine⟨k+1,by omega,rfl,fun e he=>?_,by have:=HK.out.2;(repeat' (first | assumption | exact Below.refl _ _ | refine za7 ?_ (by assumption) | refine zb2 ?_ _ | refine za5 ?_ | refine zb1 ?_ (by simp<;>omega) _))⟩
      rcases Nat.lt_or_ge e k with q | q
      ·exact HK.out.1 e q
      ·have:e=k:=by omega
       subst this;exact HM.out
     case measure=>simp[intOf];omega
    ·go_wp2
     go_ret
     exact⟨by rw[edgeF_at k hk6 HK.out.1 HM.out];rfl,by have:=HK.out.2;(repeat' (first | assumption | exact Below.refl _ _ | refine za7 ?_ (by assumption) | refine zb2 ?_ _ | refine za5 ?_ | refine zb1 ?_ (by simp<;>omega) _))⟩
   ·go_wp2
    go_ret
    exact⟨by rw[edgeF_at k hk6 HK.out.1 HM.out];rfl,by have:=HK.out.2;(repeat' (first | assumption | exact Below.refl _ _ | refine za7 ?_ (by assumption) | refine zb2 ?_ _ | refine za5 ?_ | refine zb1 ?_ (by simp<;>omega) _))⟩
  ·have:k=6:=by omega
   subst this
   go_wp2
   go_ret
   exact⟨by rw[edgeF_none HK.out.1];rfl,HK.out.2⟩
theorem Ends_walk (k:Nat)(hk:k<6)(w:World):Calls Try.prog 127 #[.int .i64 (k:Int)] w fun e w'=>e=.returned (.tuple #[.int .i64 (pA k:Nat),.int .i64 (pB k:Nat)])∧Below w.heap.size w w':=by
 have hix:∀w,(Instr.index 175 (.agg pairsV) (.int .i64 (k:Int))).run Try.prog w=.ok (.agg #[.int .i64 (pA k:Nat),.int .i64 (pB k:Nat)]) w:=pairs_index k hk
 generalize ((pA k:Nat):Int)=a at *
 generalize ((pB k:Nat):Int)=b at *
 go_enter Try.func127,Try.ntmps127
 go_wp2_with (go_at_call 106;refine (pairs_walk _).mono ?_;rintro e w' ⟨rfl,hb⟩)
 have hB:Below w.heap.size w (w'.alloc (.cells #[.int .i64 a,.int .i64 b] 82)):=by (repeat' (first | assumption | exact Below.refl _ _ | refine za7 ?_ (by assumption) | refine zb2 ?_ _ | refine za5 ?_ | refine zb1 ?_ (by simp<;>omega) _))
 have c0:(w'.alloc (.cells #[.int .i64 a,.int .i64 b] 82)).cell? ⟨w'.heap.size,0,none⟩=some (.int .i64 a):=by simp[go_sem]
 have c1:(w'.alloc (.cells #[.int .i64 a,.int .i64 b] 82)).cell? ⟨w'.heap.size,1,none⟩=some (.int .i64 b):=by simp[go_sem]
 generalize w'.alloc (.cells #[.int .i64 a,.int .i64 b] 82)=W at *
 have HB:=Lib.hid hB;clear hB
 go_still (by kernel_rfl)
 go_wp2
 go_ret2
 exact⟨rfl,by have:=HB.out;(repeat' (first | assumption | exact Below.refl _ _ | refine za7 ?_ (by assumption) | refine zb2 ?_ _ | refine za5 ?_ | refine zb1 ?_ (by simp<;>omega) _))⟩
end
end Go.Proofs.Ytlckpgahijlmoaa
