/- skel's union-find: what root, join, newUnion and numbers do to it. -/
import Derived.Test.YtlckpgahijlmoaaQ02
import Derived.Deep.OwnRows
set_option maxRecDepth 100000
set_option maxHeartbeats 8000000
namespace Go.Proofs.Ytlckpgahijlmoaa
section
open Go.RowKit
structure Reps (n:Nat)(u r:Nat→Nat):Prop where
 le:∀i,i<n→u i≤i
 root:∀i,i<n→r (u i)=r i
 fix:∀i,i<n→u i=i→r i=i
theorem Reps.rle {n:Nat}{u r:Nat→Nat}(h:Reps n u r):∀i,i<n→r i≤i:=by
 intro i
 induction i using Nat.strongRecOn with
 | _ i ih=>
  intro hi
  by_cases e:u i=i
  ·rw[h.fix i hi e];exact Nat.le_refl _
  ·have:=h.le i hi
   have:=ih (u i) (by omega) (by omega)
   rw[←h.root i hi];omega
theorem Reps.idem {n:Nat}{u r:Nat→Nat}(h:Reps n u r):∀i,i<n→r (r i)=r i:=by
 intro i
 induction i using Nat.strongRecOn with
 | _ i ih=>
  intro hi
  by_cases e:u i=i
  ·rw[h.fix i hi e];exact h.fix i hi e
  ·have:=h.le i hi
   have:=ih (u i) (by omega) (by omega)
   rw[←h.root i hi];exact this
structure UF (W:World)(pb po b n:Nat)(r:Nat→Nat):Prop where
 ptr:W.cell? ⟨pb,po,none⟩=some (.slice (some ⟨b,0,none⟩) n n)
 ne:pb≠b
 row:∃u,W.rowIs b 3 n (fun i=>.int .i64 ((u i:Nat):Int))∧Reps n u r
theorem za3 {W W':World}{b:Nat}{t n:Nat}{f:Nat→Value}(h:W.rowIs b t n f){row:Option Nat}(hg:W.grownBy W' row)(hne:some b≠row):W'.rowIs b t n f:=by
 obtain⟨c,h1,h2,h3⟩:=h
 exact⟨c,(hg.block b (Array.getElem?_eq_some_iff.1 h1).1 hne).trans h1,h2,h3⟩
theorem UF.kept {W W':World}{pb po b n:Nat}{r:Nat→Nat}(h:UF W pb po b n r){row:Option Nat}(hg:W.grownBy W' row)(h1:some b≠row)(h2:some pb≠row):UF W' pb po b n r:=
 ⟨hg.cell h.ptr h2,h.ne,by obtain⟨u,hu,hr⟩:=h.row;exact⟨u,za3 hu hg h1,hr⟩⟩
theorem zb0 (W:World)(row:Option Nat):W.grownBy W.drew row:=⟨rfl,rfl,rfl,Nat.le_refl _,fun _ _ _=>rfl⟩
theorem za1 (W:World)(b o:Nat)(v:Value):W.grownBy (W.setCell ⟨b,o,none⟩ v) (some b):=
 ⟨rfl,rfl,rfl,by simp,fun k hk hne=>by
  show (W.heap.modify b _)[k]?=_
  rw[Array.getElem?_modify,if_neg (fun e=>hne (by rw[e]))]⟩
theorem za2 {A B C:World}{row:Option Nat}(h:A.grownBy B row)(k:B.grownBy C row):A.grownBy C row:=
 ⟨k.os.trans h.os,k.tape.trans h.tape,k.output.trans h.output,Nat.le_trans h.size k.size,fun i hi hne=>(k.block i (Nat.lt_of_lt_of_le hi h.size) hne).trans (h.block i hi hne)⟩
theorem zd2 (A:World)(row:Option Nat):A.grownBy A row:=⟨rfl,rfl,rfl,Nat.le_refl _,fun _ _ _=>rfl⟩
theorem zd0 {a k:Nat}(e:a=k):((a:Int)==(k:Int))=true:=by subst e;simp
theorem zc4 {a k:Nat}(e:a≠k):((a:Int)==(k:Int))=false:=by
 rw[beq_eq_false_iff_ne];omega
theorem ze4 {a k:Nat}(e:a≠k):((a:Int) !=(k:Int))=true:=by simp[bne,zc4 e]
theorem zd9 {a k:Nat}(e:a=k):((a:Int) !=(k:Int))=false:=by simp[bne,zd0 e]
theorem Reps.halve {n:Nat}{u r:Nat→Nat}(h:Reps n u r)(k:Nat)(hk:k<n):Reps n (fun i=>if i=k then u (u k) else u i) r:=by
 have h1:=h.le k hk
 have h2:=h.le (u k) (by omega)
 refine⟨fun i hi=>?_,fun i hi=>?_,fun i hi e=>?_⟩
 ·by_cases e:i=k
  ·subst e;simp;omega
  ·simp[e];exact h.le i hi
 ·by_cases e:i=k
  ·subst e;simp;rw[h.root _ (by omega),h.root _ hi]
  ·simp[e];exact h.root i hi
 ·by_cases e':i=k
  ·subst e'
   simp at e
   exact h.fix i hi (by omega)
  ·simp[e'] at e;exact h.fix i hi e
theorem root_walk (pb po b n:Nat)(r:Nat→Nat)(i0:Nat)(hi0:i0<n)(_hn:n≤1000000)(w:World)(hU:UF w pb po b n r) :
  Calls Try.prog 105 #[.pointer (some ⟨pb,po,none⟩),.int .i64 (i0:Int)] w fun e w'=>e=.returned (.int .i64 ((r i0:Nat):Int))∧UF w' pb po b n r∧w.grownBy w' (some b):=by
 have HU:=Lib.hid hU;clear hU
 go_enter Try.func105,Try.ntmps105
 go_wp2
 go_loopw [1] (fun i wr=>∃k:Nat,k<n∧i=.int .i64 k∧r k=r i0∧UF wr pb po b n r∧w.grownBy wr (some b)) (fun i _=>(intOf i).toNat)
 case atStart=>exact⟨i0,hi0,rfl,rfl,HU.out,zd2 _ _⟩
 case round=>
  obtain⟨k,hk,rfl,hrk,hUk,hg⟩:=hrel
  have c0:=hUk.ptr
  obtain⟨u,hu,hR⟩:=hUk.row
  have c1:=hu.cell hk
  have HK:=Hd4 hrk hu hR hg
  have hle:=hR.le k hk
  have hne:=hUk.ne
  have HUk:=Lib.hid hUk
  by_cases e:u k=k
  ·have he:=zd0 e
   have he':=zd9 e
   have HF:=Lib.hid (hR.fix k hk e)
   clear hrk hu hR hg hUk e
   go_wp2
   go_ret
   obtain⟨hrk,hu,hR,hg⟩:=HK.out
   exact⟨by rw[←hrk,HF.out];rfl,HUk.out,hg⟩
  ·have he:=zc4 e
   have he':=ze4 e
   have hlt:u k<k:=by omega
   have c2:=hu.cell (i:=u k) (by omega)
   have f1:=hu.frozen k
   have HR:=Lib.hid (hR.halve k hk)
   have hle2:=hR.le (u k) (by omega)
   have HR2:=Hd2 (hR.root k hk) (hR.root (u k) (by omega))
   clear hrk hu hR hg hUk e
   generalize ha:u k=a at *
   generalize hc:u a=c at *
   have HA:=Hd2 ha hc
   clear ha hc
   have han:a<n:=by omega
   go_wp2_with fail
   refine zc1 19 (by kernel_rfl) (by kernel_rfl) ?_
   simp only[List.take_succ_cons,List.take_zero,List.drop_succ_cons,List.drop_zero]
   repeat (refine wpStill_step (fun K hK=>?_);go_simp;refine hK _ ?_;clear hK K)
   refine wpStill_nil ?_
   go_wp2
   go_roundw
   case rel=>
    obtain⟨hrk,hu,hR,hg⟩:=HK.out
    obtain⟨ha,hc⟩:=HA.out
    have hg2:wr.grownBy (wr.setCell ⟨b,k,none⟩ (.int .i64 (c:Int))).drew (some b):=za2 (za1 wr b k _) (zb0 _ _)
    refine⟨c,by omega,rfl,by rw[HR2.out.2,HR2.out.1,hrk],⟨hg2.cell c0 (fun e=>hne (by cases e;rfl)),hne,_,((hu.set k _).drew).congr (fun i _=>?_),HR.out⟩,za2 hg hg2⟩
    by_cases e:i=k
    ·simp[e]
    ·simp[e]
   case measure=>simp[intOf];omega
def joinR (r:Nat→Nat)(i j:Nat):Nat→Nat:=fun k=>if r k=max (r i) (r j) then min (r i) (r j) else r k
theorem Reps.join {n:Nat}{u r:Nat→Nat}(h:Reps n u r)(i j:Nat)(hi:i<n)(hj:j<n):Reps n (fun k=>if k=max (r i) (r j) then min (r i) (r j) else u k) (joinR r i j):=by
 have a1:=h.rle i hi
 have a2:=h.rle j hj
 have b1:=h.idem i hi
 have b2:=h.idem j hj
 have hmx:r (max (r i) (r j))=max (r i) (r j):=by
  rcases Nat.le_total (r i) (r j) with e | e
  ·rw[Nat.max_eq_right e];exact b2
  ·rw[Nat.max_eq_left e];exact b1
 have hmn:r (min (r i) (r j))=min (r i) (r j):=by
  rcases Nat.le_total (r i) (r j) with e | e
  ·rw[Nat.min_eq_left e];exact b1
  ·rw[Nat.min_eq_right e];exact b2
 have hmm:min (r i) (r j)≤max (r i) (r j):=by omega
 refine⟨fun k hk=>?_,fun k hk=>?_,fun k hk e=>?_⟩
 ·by_cases e:k=max (r i) (r j)
  ·simp only[e,if_true];exact hmm
  ·simp only[e,if_false];exact h.le k hk
 ·by_cases e:k=max (r i) (r j)
  ·simp only[e,if_true,joinR,hmx]
   by_cases e2:r (min (r i) (r j))=max (r i) (r j)
   ·rw[if_pos e2]
   ·rw[if_neg e2];exact hmn
  ·simp only[e,if_false,joinR,h.root k hk]
 ·by_cases e':k=max (r i) (r j)
  ·simp only[e',if_true] at e
   simp only[joinR]
   rw[e',hmx,if_pos rfl];exact e
  ·simp only[e',if_false] at e
   simp only[joinR]
   rw[h.fix k hk e,if_neg e']
theorem join_walk (pb po b n:Nat)(r:Nat→Nat)(i j:Nat)(hi:i<n)(hj:j<n)(hn:n≤1000000)(w:World)(hU:UF w pb po b n r) :
  Calls Try.prog 103 #[.pointer (some ⟨pb,po,none⟩),.int .i64 (i:Int),.int .i64 (j:Int)] w fun e w'=>e=.returned (.tuple #[])∧UF w' pb po b n (joinR r i j)∧w.grownBy w' (some b):=by
 have HU:=Lib.hid hU;clear hU
 go_enter Try.func103,Try.ntmps103
 go_wp2_with fail
 refine (root_walk pb po b n r i hi hn _ HU.out).mono ?_
 rintro e w1 ⟨rfl,h1,g1⟩
 have H1:=Hd2 h1 g1;clear h1 g1
 go_wp2_with fail
 refine (root_walk pb po b n r j hj hn _ H1.out.1).mono ?_
 rintro e w2 ⟨rfl,h2,g2⟩
 have c0:=h2.ptr
 have hne:=h2.ne
 obtain⟨u,hu,hR⟩:=h2.row
 have hri:=hR.rle i hi
 have hrj:=hR.rle j hj
 have hJ:=hR.join i j hi hj
 have hg:=za2 H1.out.2 g2
 have fin:∀a c:Nat,a<n→max (r i) (r j)=a→min (r i) (r j)=c→UF (w2.setCell ⟨b,a,none⟩ (.int .i64 (c:Int))) pb po b n (joinR r i j)∧w.grownBy (w2.setCell ⟨b,a,none⟩ (.int .i64 (c:Int))) (some b):=by
  intro a c ha e1 e2
  rw[e1,e2] at hJ
  have hg2:=za1 w2 b a (.int .i64 (c:Int))
  refine⟨⟨hg2.cell c0 (fun e=>hne (by cases e;rfl)),hne,_,(hu.set a _).congr (fun i _=>?_),hJ⟩,za2 hg hg2⟩
  by_cases e:i=a
  ·simp[e]
  ·simp[e]
 have HF:=Lib.hid fin;clear fin
 rcases Nat.lt_trichotomy (r i) (r j) with e | e | e
 ·have c1:=hu.cell (i:=r j) (by omega)
  have f1:=hu.frozen (r j)
  have q1:r j<n:=by omega
  have F:=Lib.hid (HF.out (r j) (r i) q1 (by omega) (by omega))
  generalize ha:r i=a at *
  generalize hc:r j=c at *
  clear hu hR hJ hg ha hc
  have e':(a:Int)<(c:Int):=by omega
  have e'':¬(c:Int)<(a:Int):=by omega
  have e3:(a:Int)≤(c:Int):=by omega
  go_wp2
  go_end0
  exact⟨rfl,F.out⟩
 ·have c1:=hu.cell (i:=r j) (by omega)
  have f1:=hu.frozen (r j)
  have q1:r j<n:=by omega
  have F:=Lib.hid (HF.out (r j) (r j) q1 (by omega) (by omega))
  rw[e]
  generalize hc:r j=c at *
  clear hu hR hJ hg hc
  go_wp2
  go_end0
  exact⟨rfl,F.out⟩
 ·have c1:=hu.cell (i:=r i) (by omega)
  have f1:=hu.frozen (r i)
  have q1:r i<n:=by omega
  have F:=Lib.hid (HF.out (r i) (r j) q1 (by omega) (by omega))
  generalize ha:r i=a at *
  generalize hc:r j=c at *
  clear hu hR hJ hg ha hc
  have e':(c:Int)<(a:Int):=by omega
  have e'':¬(a:Int)<(c:Int):=by omega
  have e3:(c:Int)≤(a:Int):=by omega
  go_wp2
  go_end0
  exact⟨rfl,F.out⟩
end
end Go.Proofs.Ytlckpgahijlmoaa
