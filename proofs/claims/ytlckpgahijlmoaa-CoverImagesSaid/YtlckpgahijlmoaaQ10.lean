/- skel's link: the triangles of a link. -/
import Derived.Test.YtlckpgahijlmoaaQ08
import Derived.Test.YtlckpgahijlmoaaQ09
set_option maxRecDepth 100000
set_option maxHeartbeats 8000000
namespace Go.Proofs.Ytlckpgahijlmoaa
section
open Go.RowKit Go.Shelf Go.Maps
theorem zero4 (w:World):(zeroValue 4).run Try.prog w=.ok (.bool false) w:=by kernel_rfl
def SI (B:Nat)(W:World)(v:Value)(n:Nat)(f:Nat→Int):Prop:=
 ∃a b off cap,v=.slice a n cap∧(0<n→a=some ⟨b,off,none⟩∧b<B)∧∀k,k<n→W.cell? ⟨b,off+k,none⟩=some (.int .i64 (f k))
theorem SI.below {B:Nat}{W W':World}{v:Value}{n:Nat}{f:Nat→Int}(h:SI B W v n f)(hb:Below B W W'):SI B W' v n f:=by
 obtain⟨a,b,off,cap,rfl,h1,h2⟩:=h
 exact⟨a,b,off,cap,rfl,h1,fun k hk=>(hb.cell (p:=⟨b,off+k,none⟩) (h1 (by omega)).2).trans (h2 k hk)⟩
theorem SI.mono {B B':Nat}{W:World}{v:Value}{n:Nat}{f:Nat→Int}(h:SI B W v n f)(hB:B≤B'):SI B' W v n f:=by
 obtain⟨a,b,off,cap,rfl,h1,h2⟩:=h
 exact⟨a,b,off,cap,rfl,fun k=>⟨(h1 k).1,by have:=(h1 k).2;omega⟩,h2⟩
def permD (f:Nat→Int)(k:Nat)(a:Nat):Option Bool:=if (List.range k).any (fun j=>f j==(a:Int)) then some true else none
def permP (f:Nat→Int)(n:Int)(k:Nat):Bool:=(List.range k).all fun i=>decide (0≤f i) && decide (f i<n) && !(List.range i).any (fun j=>f j==f i)
def permB (l:Nat)(f:Nat→Int)(n:Int):Bool:=permP f n l && ((l:Int)==n)
theorem permP_succ (f:Nat→Int)(n:Int)(k:Nat):permP f n (k+1)=(permP f n k && (decide (0≤f k) && decide (f k<n) && !(List.range k).any (fun j=>f j==f k))):=by
 simp[permP,List.range_succ,List.all_append]
theorem permP_le {f:Nat→Int}{n:Int}{k l:Nat}(h:permP f n l=true)(hk:k≤l):permP f n k=true:=by
 simp only[permP,List.all_eq_true,List.mem_range] at h ⊢
 exact fun i hi=>h i (by omega)
theorem permB_false {f:Nat→Int}{n:Int}{l k:Nat}(hk:k<l)(h:(decide (0≤f k) && decide (f k<n) && !(List.range k).any (fun j=>f j==f k))=false):permB l f n=false:=by
 cases hp:permB l f n with
 | false=>rfl
 | true=>
  simp only[permB,Bool.and_eq_true] at hp
  have:=permP_le (k:=k+1) hp.1 (by omega)
  rw[permP_succ,h] at this
  simp at this
theorem permD_succ (f:Nat→Int)(k a:Nat)(hk:f k=(a:Int))(x:Nat):(if x=a then some true else permD f k x)=permD f (k+1) x:=by
 unfold permD
 rw[List.range_succ,List.any_append]
 by_cases e:x=a
 ·subst e;simp[hk]
 ·have:((a:Int)==(x:Int))=false:=by simp;omega
  simp[e,hk,this]
theorem isPerm_walk (l:Nat)(f:Nat→Int)(n:Nat)(hl:l<4611686018427387904)(hn:n<4611686018427387904)(B:Nat)(w:World)(hB:B≤w.heap.size)(v:Value)(hv:SI B w v l f) :
  Calls Try.prog 71 #[v,.int .i64 (n:Int)] w fun e w'=>e=.returned (.bool (permB l f n))∧Below w.heap.size w w':=by
 have hmm:=@run_makeMap Try.prog
 obtain⟨a,b,off,cap,rfl,ha,hc⟩:=hv
 have HC:=Hd2 ha hc;clear ha hc
 go_enter Try.func71,Try.ntmps71
 go_wp2
 refine zb3 fun W1 hW=>?_
 have h0:MapIs W1 3 (fun a:Nat=>a<9223372036854775808) (fun a:Nat=>Value.int .i64 (a:Int)) Value.bool w.heap.size 0 (permD f 0):=by
  rw[hW];exact (MapIs.made w).congr (fun a=>by simp[permD])
 have hB1:Below w.heap.size w W1:=by rw[hW];(repeat' (first | assumption | exact Below.refl _ _ | refine za7 ?_ (by assumption) | refine zb2 ?_ _ | refine za5 ?_ | refine zb1 ?_ (by simp<;>omega) _))
 clear hW hmm
 generalize hN:w.heap.size=N at *
 have H:=Hd2 h0 hB1;clear h0 hB1
 go_loopw [11] (fun i wr=>∃k nn:Nat,k≤l∧i=.int .i64 k∧permP f n k=true∧MapIs wr 3 (fun a:Nat=>a<9223372036854775808) (fun a:Nat=>Value.int .i64 (a:Int)) Value.bool N nn (permD f k)∧Below N w wr) (fun i _=>l-(intOf i).toNat)
 case atStart=>exact⟨0,0,by omega,rfl,rfl,H.out.1,H.out.2⟩
 case round=>
  clear H
  obtain⟨k,nn,hk,rfl,hp,hm,hb⟩:=hrel
  rcases Nat.lt_or_ge k l with hkl | hkl
  ·obtain⟨rfl,hbB⟩:=HC.out.1 (by omega)
   have hx:=(hb.cell (p:=⟨b,off+k,none⟩) (by show b<N;omega)).trans (HC.out.2 k hkl)
   obtain⟨x,hxe⟩:∃x,x=f k:=⟨_,rfl⟩
   rw[←hxe] at hx
   have k0:0≤(k:Int):=by omega
   have kl:(k:Int)<(l:Int):=by omega
   have HK:=Hd4 hp hm hb hxe
   clear hp hm hb hxe
   by_cases h0:x<0
   ·go_wp2
    go_ret
    refine⟨?_,hN▸HK.out.2.2.1⟩
    rw[permB_false hkl (by have:=HK.out.2.2.2;simp;omega)];rfl
   ·by_cases h1:(n:Int)≤x
    ·go_wp2
     go_ret
     refine⟨?_,hN▸HK.out.2.2.1⟩
     rw[permB_false hkl (by have:=HK.out.2.2.2;simp;omega)];rfl
    ·obtain⟨y,rfl⟩:∃y:Nat,x=(y:Int):=⟨x.toNat,by omega⟩
     have hlk:=HK.out.2.1.look codes_int und182 (zero4 _) false y (by omega)
     simp only[Bool.false_eq_true,if_false] at hlk
     cases hD:(permD f k y).elim (Value.bool false) Value.bool with
     | bool q=>
      rw[hD] at hlk
      have HD:=Lib.hid hD;clear hD
      cases q with
      | true=>
       go_wp2
       go_ret
       refine⟨?_,hN▸HK.out.2.2.1⟩
       have hD:=HD.out
       unfold permD at hD
       split at hD
       ·next he=>
        rw[permB_false hkl (by rw[←HK.out.2.2.2,he];simp)];rfl
       ·simp at hD
      | false=>
       go_wp2_with (first | refine zg3 (a:=y) (c:=true) rfl 182 (.tmp 27) (.tmp 28) (.const (.bool true)) rfl codes_int und182 HK.out.2.1 (by omega) rfl rfl rfl ?_;intro W3 h1 h2 h3;have H3:=Hd3 h1 h2 h3;clear h1 h2 h3)
       go_roundw
       case rel=>
        refine⟨k+1,_,by omega,rfl,?_,(H3.out.1).congr (fun z=>?_),?_⟩
        ·have hD:=HD.out
         unfold permD at hD
         rw[permP_succ,HK.out.1,←HK.out.2.2.2]
         split at hD
         ·simp at hD
         ·next he=>simp only[Bool.not_eq_true] at he;rw[he];simp;omega
        ·exact permD_succ f k y HK.out.2.2.2.symm z
        ·exact HK.out.2.2.1.grown H3.out.2.1 (by have:=HK.out.2.2.1.size;omega) (fun k hk=>by cases hk;omega)
       case measure=>simp[intOf];omega
     | _=>cases hq:permD f k y<;>simp[hq] at hD
  ·obtain rfl:k=l:=by omega
   have HK:=Hd3 hp hm hb;clear hp hm hb
   go_wp2
   go_ret
   exact⟨by rw[permB,HK.out.1,Bool.true_and];rfl,hN▸HK.out.2.2⟩
theorem identity_walk (n:Nat)(hn:n≤1000000)(w:World) :
  Calls Try.prog 42 #[.int .i64 (n:Int)] w fun e w'=>e=.returned (.slice (some ⟨w.heap.size,0,none⟩) n n)∧zb7 w' w.heap.size n (fun i=>(i:Int))∧Below w.heap.size w w':=by
 have hmk:=run_make_row' (P:=Try.prog) 35 3 (.int .i64 0) 8 und35 info3 rfl .i64 .i64 n (by omega) (by omega)
 go_enter Try.func42,Try.ntmps42
 go_wp2
 refine zb3 fun W1 hW=>?_
 have hr:zb7 W1 w.heap.size n (fun i=>if i<0 then (i:Int) else 0):=by
  rw[hW];exact (World.rowIs_made w (.int .i64 0) n 3).congr (fun i _=>by simp)
 have hb:Below w.heap.size w W1:=by rw[hW];(repeat' (first | assumption | exact Below.refl _ _ | refine za7 ?_ (by assumption) | refine zb2 ?_ _ | refine za5 ?_ | refine zb1 ?_ (by simp<;>omega) _))
 clear hmk hW
 generalize hN:w.heap.size=N at *
 have H1:=Hd2 hr hb;clear hr hb
 go_loopw [9] (fun i wr=>∃k:Nat,k≤n∧i=.int .i64 k∧zb7 wr N n (fun i=>if i<k then (i:Int) else 0)∧Below N w wr) (fun i _=>n-(intOf i).toNat)
 case atStart=>exact⟨0,by omega,rfl,H1.out.1,H1.out.2⟩
 case round=>
  clear H1
  obtain⟨k,hk,rfl,hr,hb⟩:=hrel
  rcases Nat.lt_or_ge k n with hkn | hkn
  ·have hc:=hr.cell hkn
   have hf:=hr.frozen k
   have HK:=Hd2 hr hb;clear hr hb
   go_wp2
   go_roundw
   case rel=>
    refine⟨k+1,by omega,rfl,(HK.out.1.set k _).congr (fun i hi=>?_),HK.out.2.setCell (Nat.le_refl _) _⟩
    by_cases e:i=k
    ·simp[e]
    ·have:i<k+1↔i<k:=by omega
     simp[e,this]
   case measure=>simp[intOf];omega
  ·obtain rfl:k=n:=by omega
   have HK:=Hd2 hr hb;clear hr hb
   go_wp2
   go_ret
   rw[hN]
   exact⟨rfl,HK.out.1.congr (fun i hi=>by simp[hi]),HK.out.2⟩
end
section
open Go.RowKit
def UR (W:World)(b n:Nat)(r:Nat→Nat):Prop:=∃u:Nat→Nat,zb7 W b n (fun i=>((u i:Nat):Int))∧Reps n u r
theorem UR.kept {W W':World}{b n:Nat}{r:Nat→Nat}(h:UR W b n r){row:Option Nat}(hg:W.grownBy W' row)(hne:some b≠row):UR W' b n r:=by
 obtain⟨u,h1,h2⟩:=h
 exact⟨u,za3 h1 hg hne,h2⟩
theorem UR.below {W W':World}{b n B:Nat}{r:Nat→Nat}(h:UR W b n r)(hb:Below B W W')(hB:b<B):UR W' b n r:=by
 obtain⟨u,⟨c,h1,h3,h4⟩,h2⟩:=h
 exact⟨u,⟨c,(hb.block b hB).trans h1,h3,h4⟩,h2⟩
theorem UR.facts {W:World}{b n:Nat}{r:Nat→Nat}(h:UR W b n r):(∀i,i<n→r i≤i)∧(∀i,i<n→r (r i)=r i):=by
 obtain⟨u,_,hR⟩:=h
 exact⟨hR.rle,hR.idem⟩
theorem UR.lt {W:World}{b n:Nat}{r:Nat→Nat}(h:UR W b n r):b<W.heap.size:=by
 obtain⟨u,h1,_⟩:=h
 exact h1.lt
theorem singles_walk (n:Nat)(hn:n≤1000000)(w:World) :
  Calls Try.prog 87 #[.int .i64 (n:Int)] w fun e w'=>e=.returned (.slice (some ⟨w.heap.size,0,none⟩) n n)∧UR w' w.heap.size n id∧Below w.heap.size w w':=by
 have hmk:=run_make_row' (P:=Try.prog) 35 3 (.int .i64 0) 8 und35 info3 rfl .i64 .i64 n (by omega) (by omega)
 go_enter Try.func87,Try.ntmps87
 go_wp2
 refine zb3 fun W1 hW=>?_
 have hr:zb7 W1 w.heap.size n (fun i=>if i<0 then (i:Int) else 0):=by
  rw[hW];exact (World.rowIs_made w (.int .i64 0) n 3).congr (fun i _=>by simp)
 have hb:Below w.heap.size w W1:=by rw[hW];(repeat' (first | assumption | exact Below.refl _ _ | refine za7 ?_ (by assumption) | refine zb2 ?_ _ | refine za5 ?_ | refine zb1 ?_ (by simp<;>omega) _))
 clear hmk hW
 generalize hN:w.heap.size=N at *
 have H1:=Hd2 hr hb;clear hr hb
 go_loopw [9] (fun i wr=>∃k:Nat,k≤n∧i=.int .i64 k∧zb7 wr N n (fun i=>if i<k then (i:Int) else 0)∧Below N w wr) (fun i _=>n-(intOf i).toNat)
 case atStart=>exact⟨0,by omega,rfl,H1.out.1,H1.out.2⟩
 case round=>
  clear H1
  obtain⟨k,hk,rfl,hr,hb⟩:=hrel
  rcases Nat.lt_or_ge k n with hkn | hkn
  ·have hc:=hr.cell hkn
   have hf:=hr.frozen k
   have HK:=Hd2 hr hb;clear hr hb
   go_wp2
   go_roundw
   case rel=>
    refine⟨k+1,by omega,rfl,(HK.out.1.set k _).congr (fun i hi=>?_),HK.out.2.setCell (Nat.le_refl _) _⟩
    by_cases e:i=k
    ·simp[e]
    ·have:i<k+1↔i<k:=by omega
     simp[e,this]
   case measure=>simp[intOf];omega
  ·obtain rfl:k=n:=by omega
   have HK:=Hd2 hr hb;clear hr hb
   go_wp2
   go_ret
   rw[hN]
   exact⟨rfl,⟨id,HK.out.1.congr (fun i hi=>by simp[hi]),fun i _=>Nat.le_refl _,fun _ _=>rfl,fun _ _ _=>rfl⟩,HK.out.2⟩
theorem rroot_walk (b n:Nat)(r:Nat→Nat)(i0:Nat)(hi0:i0<n)(_hn:n≤1000000)(w:World)(hU:UR w b n r) :
  Calls Try.prog 120 #[.slice (some ⟨b,0,none⟩) n n,.int .i64 (i0:Int)] w fun e w'=>e=.returned (.int .i64 ((r i0:Nat):Int))∧w=w':=by
 have HU:=Lib.hid hU;clear hU
 go_enter Try.func120,Try.ntmps120
 go_wp2
 go_loop [1] (fun i=>∃k:Nat,k<n∧i=.int .i64 k∧r k=r i0) (fun i=>(intOf i).toNat)
 case atStart=>exact⟨i0,hi0,rfl,rfl⟩
 case round=>
  obtain⟨k,hk,rfl,hrk⟩:=hrel
  obtain⟨u,hu,hR⟩:=HU.out
  have c1:w.cell? ⟨b,k,none⟩=some (.int .i64 ((u k:Nat):Int)):=hu.cell hk
  have hle:=hR.le k hk
  by_cases e:u k=k
  ·have he:=zd0 e
   have he':=zd9 e
   have HF:=Hd2 (hR.fix k hk e) hrk
   clear hrk hu hR e
   go_wp2
   go_ret
   exact⟨by rw[←HF.out.2,HF.out.1];rfl,rfl⟩
  ·have he:=zc4 e
   have he':=ze4 e
   have HR:=Hd2 (hR.root k hk) hrk
   have hlt:u k<k:=by omega
   clear hrk hu hR e
   generalize u k=a at *
   go_wp2
   go_round
   case rel=>exact⟨a,by omega,rfl,by rw[HR.out.1,HR.out.2]⟩
   case measure=>simp[intOf];omega
theorem ze9 (b n:Nat)(r:Nat→Nat)(i j:Nat)(hi:i<n)(hj:j<n)(hn:n≤1000000)(w:World)(hU:UR w b n r) :
  Calls Try.prog 88 #[.slice (some ⟨b,0,none⟩) n n,.int .i64 (i:Int),.int .i64 (j:Int)] w fun e w'=>e=.returned (.tuple #[])∧UR w' b n (joinR r i j)∧w.grownBy w' (some b):=by
 have HU:=Lib.hid hU;clear hU
 go_enter Try.func88,Try.ntmps88
 go_wp2_with fail
 refine (rroot_walk b n r i hi hn _ HU.out).mono ?_
 rintro e w1 ⟨rfl,rfl⟩
 go_wp2_with fail
 refine (rroot_walk b n r j hj hn _ HU.out).mono ?_
 rintro e w2 ⟨rfl,rfl⟩
 obtain⟨u,hu,hR⟩:=HU.out
 have hri:=hR.rle i hi
 have hrj:=hR.rle j hj
 have hJ:=hR.join i j hi hj
 have fin:∀a c:Nat,max (r i) (r j)=a→min (r i) (r j)=c→UR (w.setCell ⟨b,a,none⟩ (.int .i64 (c:Int))) b n (joinR r i j)∧w.grownBy (w.setCell ⟨b,a,none⟩ (.int .i64 (c:Int))) (some b):=by
  intro a c e1 e2
  rw[e1,e2] at hJ
  refine⟨⟨_,(hu.set a _).congr (fun i _=>?_),hJ⟩,za1 w b a (.int .i64 (c:Int))⟩
  by_cases e:i=a
  ·simp[e]
  ·simp[e]
 have HF:=Lib.hid fin;clear fin
 have f1:=hu.frozen (r j)
 have f2:=hu.frozen (r i)
 obtain⟨v1,v2⟩:(∃x,w.cell? ⟨b,r j,none⟩=some x)∧(∃x,w.cell? ⟨b,r i,none⟩=some x):=⟨⟨_,hu.cell (i:=r j) (by omega)⟩,⟨_,hu.cell (i:=r i) (by omega)⟩⟩
 obtain⟨x1,v1⟩:=v1
 obtain⟨x2,v2⟩:=v2
 clear hu hR hJ
 have hrin:r i<n:=by omega
 have hrjn:r j<n:=by omega
 generalize r i=a at *
 generalize r j=c at *
 rcases Nat.lt_or_ge a c with e | e
 ·have he:decide ((a:Int)<(c:Int))=true:=by simp;omega
  have e1:max a c=c:=by omega
  have e2:min a c=a:=by omega
  have HF:=Lib.hid (HF.out c a e1 e2)
  clear e1 e2
  go_wp2
  go_end0
  exact⟨rfl,HF.out⟩
 ·have he:decide ((a:Int)<(c:Int))=false:=by simp;omega
  have e1:max a c=a:=by omega
  have e2:min a c=c:=by omega
  have HF:=Lib.hid (HF.out a c e1 e2)
  clear e1 e2
  go_wp2
  go_end0
  exact⟨rfl,HF.out⟩
theorem numbered_walk (b n:Nat)(r:Nat→Nat)(hn:n≤1000000)(w:World)(hU:UR w b n r) :
  Calls Try.prog 89 #[.slice (some ⟨b,0,none⟩) n n] w fun e w'=>e=.returned (.tuple #[.slice (some ⟨w.heap.size,0,none⟩) n n,.int .i64 (cnt r n:Nat)])∧zb7 w' w.heap.size n (fun i=>(cnt r (r i):Nat))∧Below w.heap.size w w':=by
 have hmk:=run_make_row' (P:=Try.prog) 35 3 (.int .i64 0) 8 und35 info3 rfl .i64 .i64 n (by omega) (by omega)
 have hbw:=hU.lt
 have HF:=Lib.hid hU.facts
 have HU:=Lib.hid hU;clear hU
 go_enter Try.func89,Try.ntmps89
 go_wp2
 refine zb3 fun W1 hW=>?_
 have hr:zb7 W1 w.heap.size n (fun i=>if i<0 then (cnt r (r i):Nat) else 0):=by
  rw[hW];exact (World.rowIs_made w (.int .i64 0) n 3).congr (fun i _=>by simp)
 have hb:Below w.heap.size w W1:=by rw[hW];(repeat' (first | assumption | exact Below.refl _ _ | refine za7 ?_ (by assumption) | refine zb2 ?_ _ | refine za5 ?_ | refine zb1 ?_ (by simp<;>omega) _))
 clear hmk hW
 generalize hN:w.heap.size=N at *
 have H1:=Hd2 hr hb;clear hr hb
 go_loopw [13,5] (fun i m wr=>∃k:Nat,k≤n∧i=.int .i64 k∧m=.int .i64 (cnt r k:Nat)∧zb7 wr N n (fun i=>if i<k then (cnt r (r i):Nat) else 0)∧Below N w wr) (fun i _ _=>n-(intOf i).toNat)
 case atStart=>exact⟨0,by omega,rfl,rfl,H1.out.1,H1.out.2⟩
 case round=>
  clear H1
  obtain⟨k,hk,rfl,rfl,hu,hb⟩:=hrel
  have HK:=Hd2 hu hb
  clear hu hb
  rcases Nat.lt_or_ge k n with hkn | hkn
  ·go_wp2_with fail
   refine (rroot_walk b n r k hkn hn _ (HU.out.below HK.out.2 hbw)).mono ?_
   rintro e w2 ⟨rfl,rfl⟩
   have hu2:=HK.out.1
   have hrk:=HF.out.1 k hkn
   have hcl:=zg7 r k
   have hf:=hu2.frozen k
   have hc:=hu2.cell hkn
   have hc2:=hu2.cell (i:=r k) (by omega)
   clear hu2
   by_cases e:r k=k
   ·have he:=zd0 e
    clear hc2
    have hcn:cnt r (k+1)=cnt r k+1:=by simp[cnt,e]
    have HE:=Hd2 e hcn;clear e hcn
    generalize hm:cnt r k=m at *
    generalize hrr:r k=rk at hrk he hc ⊢
    have HRR:=Lib.hid hrr;clear hrr
    have HM:=Lib.hid hm;clear hm
    go_wp2
    go_roundw
    case rel=>
     obtain⟨e,hcn⟩:=HE.out
     refine⟨k+1,by omega,rfl,by rw[hcn];rfl,(HK.out.1.set k _).congr (fun i hi=>?_),HK.out.2.setCell (Nat.le_refl _) _⟩
     by_cases ei:i=k
     ·subst ei;simp[e,HM.out]
     ·have:i<k+1↔i<k:=by omega
      simp[ei,this]
    case measure=>simp[intOf];omega
   ·have he:=zc4 e
    have hlt:r k<k:=by omega
    simp only[hlt,if_true,HF.out.2 k hkn] at hc2
    have hcn:cnt r (k+1)=cnt r k:=by simp[cnt,e]
    have HE:=Hd2 e hcn;clear e hcn
    generalize hm:cnt r k=m at *
    generalize hrr:r k=rk at hrk hlt he hc2 ⊢
    have HRR:=Lib.hid hrr
    generalize hcr:cnt r rk=cr at *
    have hrkn:rk<n:=by omega
    have HCR:=Lib.hid hcr
    clear hrr hcr hm
    go_wp2
    go_roundw
    case rel=>
     obtain⟨e,hcn⟩:=HE.out
     have hrk0:=HRR.out
     refine⟨k+1,by omega,rfl,by rw[hcn],(HK.out.1.set k _).congr (fun i hi=>?_),HK.out.2.setCell (Nat.le_refl _) _⟩
     by_cases ei:i=k
     ·subst ei;simp[hrk0,HCR.out]
     ·have:i<k+1↔i<k:=by omega
      simp[ei,this]
    case measure=>simp[intOf];omega
  ·have:k=n:=by omega
   subst this
   go_wp2
   go_ret2
   rw[hN]
   exact⟨rfl,HK.out.1.congr (fun i hi=>by simp[hi]),HK.out.2⟩
end
section
open Go.RowKit Go.Shelf Go.Maps
theorem und204:Try.prog.underlying 204=some (.slice 207):=by kernel_rfl
theorem und203:Try.prog.underlying 203=some (.map 207 3):=by kernel_rfl
theorem info207:(Try.prog.info? 207).map (fun i=>(i.zero,i.size,i.bytes))=some (some (.agg #[.int .i64 0,.int .i64 0]),2,16):=by kernel_rfl
theorem zero3 (w:World):(zeroValue 3).run Try.prog w=.ok (.int .i64 0) w:=by kernel_rfl
def crs (ks:List Nat):List Value:=ks.flatMap fun k=>[.int .i64 ((k / 4:Nat):Int),.int .i64 ((k % 4:Nat):Int)]
theorem crs_snoc (ks:List Nat)(k:Nat):crs (ks++[k])=crs ks++[.int .i64 ((k / 4:Nat):Int),.int .i64 ((k % 4:Nat):Int)]:=by simp[crs]
theorem crs_get (ks:List Nat)(j:Nat)(hj:j<ks.length):(crs ks)[2*j]?=some (.int .i64 ((ks[j] / 4:Nat):Int))∧(crs ks)[2*j+1]?=some (.int .i64 ((ks[j] % 4:Nat):Int)):=by
 induction ks generalizing j with
 | nil=>simp at hj
 | cons a l ih=>
  match j with
  | 0=>simp[crs]
  | j+1=>
   have:=ih j (by simpa using hj)
   have e1:2*(j+1)=2*j+2:=by omega
   rw[e1]
   simpa [crs] using this
def plD (ks:List Nat)(p:Nat×Nat):Option Nat:=if p.2<4∧4*p.1+p.2∈ks then some (ks.idxOf (4*p.1+p.2)) else none
theorem plD_snoc (ks:List Nat)(t i:Nat)(hi:i<4)(h:4*t+i∉ks)(p:Nat×Nat):plD (ks++[4*t+i]) p=if p=(t,i) then some ks.length else plD ks p:=by
 obtain⟨u,j⟩:=p
 unfold plD
 by_cases e:(u,j)=(t,i)
 ·cases e
  simp[hi,List.idxOf_append,h]
 ·rw[if_neg e]
  have hne:j<4→4*u+j≠4*t+i:=fun hj q=>e (by simp;omega)
  by_cases hj:j<4
  ·simp[hj,hne hj,List.idxOf_append]
   by_cases hm:4*u+j∈ks
   ·simp[hm]
   ·simp[hm]
  ·simp[hj]
theorem za8 {w:World}{base:Nat}{e:TypeId}{size:Nat}{v:Value}{n:Nat}{xs:List Value}(h:w.ownsRow base e size v n xs):∃ga cp,v=.slice ga n cp:=by
 rcases h.2 with ⟨rfl,rfl⟩ | ⟨g,cap,cur,rfl,_⟩
 ·exact⟨none,0,rfl⟩
 ·exact⟨_,_,rfl⟩
structure LK (W:World)(B L:Nat)(lv:Value)(mb:Nat)(v:Value)(ks:List Nat):Prop where
 c0:W.cell? ⟨L,0,none⟩=some v
 c1:W.cell? ⟨L,1,none⟩=some lv
 c2:W.cell? ⟨L,2,none⟩=some (.map (some mb))
 f1:W.frozen? ⟨L,1,none⟩=false
 own:W.ownsRow B 207 2 lv ks.length (crs ks)
 map:∃nn,MapIs W 207 okp kp vi mb nn (plD ks)
 ne:L≠mb∧lv.ownBlock≠some L∧lv.ownBlock≠some mb
 lo:B≤L∧B≤mb
theorem LK.below {W W':World}{B L:Nat}{lv:Value}{mb:Nat}{v:Value}{ks:List Nat}(h:LK W B L lv mb v ks)(hb:Below W.heap.size W W'):LK W' B L lv mb v ks:=by
 have hg:=za6 hb (Nat.le_refl _) none
 have hL:=za0 h.c0
 refine⟨hg.cell h.c0 (by simp),hg.cell h.c1 (by simp),hg.cell h.c2 (by simp),(hg.frozen_far _ (by exact hL) (by simp)).trans h.f1,h.own.kept hg ?_,?_,h.ne,h.lo⟩
 ·cases lv.ownBlock<;>simp
 ·obtain⟨nn,hm⟩:=h.map
  exact⟨nn,hm.kept hg (by simp)⟩
def ze8 (fv:Nat→Int)(x:Int)(k:Nat):List Nat:=(List.range k).filter (fun j=>fv j==x)
theorem linkKs_succ (fv:Nat→Int)(x:Int)(k:Nat):ze8 fv x (k+1)=if (fv k==x)=true then ze8 fv x k++[k] else ze8 fv x k:=by
 unfold ze8
 rw[List.range_succ,List.filter_append]
 by_cases h:(fv k==x)=true
 ·simp[h]
 ·simp[h]
theorem linkKs_not {fv:Nat→Int}{x:Int}{k j:Nat}(h:j∈ze8 fv x k):j<k:=by
 simp[ze8] at h;exact h.1
theorem linkKs_len (fv:Nat→Int)(x:Int)(k:Nat):(ze8 fv x k).length≤k:=by
 have:=List.length_filter_le (fun j=>fv j==x) (List.range k)
 simpa [ze8] using this
theorem LK.snoc {W W3 w1:World}{N n cap m cp g cap2 nn t i:Nat}{a ga:Option Addr}{fv:Nat→Int}{x:Int}{w:World}(hi:i<4)(hK:LK W N (N+1) (.slice ga m cp) N (.slice a n cap) (ze8 fv x (4*t+i)))(hB:Below N w W)
  (he:(fv (4*t+i)==x)=true) (hm:m=(ze8 fv x (4*t+i)).length)
  (h1:MapIs W3 207 okp kp vi N nn fun y=>if y=(t,i) then some m else plD (ze8 fv x (4*t+i)) y) (h2:W.drew.grownBy W3 (some N)) (h3:W3.heap.size=W.drew.heap.size)
  (a1:w1.ownsRow N 207 2 (.slice (some ⟨g,0,none⟩) (m+1) cap2) (m+1) (crs (ze8 fv x (4*t+i))++[.int .i64 (t:Int),.int .i64 (i:Int)]))
  (a2:(W3.alloc (.cells #[.int .i64 (t:Int),.int .i64 (i:Int)] 207)).grownBy w1 (Value.slice ga m cp).ownBlock) (a3:(Value.slice ga m cp).ownBlock=some g∨g=W3.heap.size+1)
  (c1:w1.cell? ⟨N+1,1,none⟩=some (.slice ga m cp)) (f1:w1.frozen? ⟨N+1,1,none⟩=false) :
  LK (w1.setCell ⟨N+1,1,none⟩ (.slice (some ⟨g,0,none⟩) (m+1) cap2)) N (N+1) (.slice (some ⟨g,0,none⟩) (m+1) cap2) N (.slice a n cap) (ze8 fv x (4*t+(i+1)))∧Below N w (w1.setCell ⟨N+1,1,none⟩ (.slice (some ⟨g,0,none⟩) (m+1) cap2)):=by
 have e:ze8 fv x (4*t+(i+1))=ze8 fv x (4*t+i)++[4*t+i]:=by
  show ze8 fv x ((4*t+i)+1)=_
  rw[linkKs_succ,if_pos he]
 have hL:=za0 hK.c0
 simp only at hL
 simp only[World.size_drew] at h3
 obtain⟨n1,n2,n3⟩:=hK.ne
 have gN1:g≠N+1:=by
  rcases a3 with q | q
  ·intro e;rw[q,e] at n2;exact n2 rfl
  ·omega
 have gN:g≠N:=by
  rcases a3 with q | q
  ·intro e;rw[q,e] at n3;exact n3 rfl
  ·omega
 have hal:=World.grownBy_alloc W3 (.cells #[.int .i64 (t:Int),.int .i64 (i:Int)] 207) none
 have hsc:=za1 w1 (N+1) 1 (.slice (some ⟨g,0,none⟩) (m+1) cap2)
 have cc:∀o v,o≠1→W.cell? ⟨N+1,o,none⟩=some v→(w1.setCell ⟨N+1,1,none⟩ (.slice (some ⟨g,0,none⟩) (m+1) cap2)).cell? ⟨N+1,o,none⟩=some v:=by
  intro o v ho hv
  rw[World.cell?_setCell_other (a:=⟨N+1,1,none⟩) (b:=⟨N+1,o,none⟩) _ _ (by simp;(try omega))]
  exact a2.cell (hal.cell (h2.cell (show W.drew.cell? ⟨N+1,o,none⟩=_ from hv) (by simp)) (by simp)) (fun q=>n2 q.symm)
 have hlen:(ze8 fv x (4*t+(i+1))).length=m+1:=by rw[e,List.length_append,←hm];rfl
 refine⟨⟨cc 0 _ (by omega) hK.c0,World.cell?_setCell_same _ _ _ c1,cc 2 _ (by omega) hK.c2,?_,?_,⟨nn,?_⟩,⟨by omega,?_,?_⟩,by omega⟩,?_⟩
 ·rw[←f1];simp[go_sem]
 ·rw[hlen,e,crs_snoc,show (4*t+i) / 4=t by omega,show (4*t+i) % 4=i by omega]
  exact a1.kept hsc (.inr (by simp[Value.ownBlock];omega))
 ·refine MapIs.congr (((h1.kept hal (by simp)).kept a2 (fun q=>n3 q.symm)).kept hsc (by simp)) (fun p=>?_)
  rw[e,plD_snoc _ _ _ hi (fun h=>by have:=linkKs_not h;omega),←hm]
 ·simp[Value.ownBlock];omega
 ·simp[Value.ownBlock];omega
 ·refine Below.setCell ?_ (by show N≤N+1;omega) _
  refine Below.grown (((za5 hB).grown h2 (by simp;omega) (fun k hk=>by cases hk;omega)).alloc (by omega) _) a2 (by simp;omega) (fun k hk=>?_)
  exact (hK.own.lt k hk).1
theorem link_walk (n cap:Nat)(a:Option Addr)(C d1:Nat)(fv:Nat→Int)(x:Int)(hn:n≤1000)(w:World)(c0:w.cell? ⟨C,0,none⟩=some (.slice a n cap))(hr:zb7 w d1 (4*n) fv) :
  Calls Try.prog 107 #[.pointer (some ⟨C,0,none⟩),.slice (some ⟨d1,0,none⟩) (4*n) (4*n),.int .i64 x] w fun e w'=>∃L lv mb,e=.returned (.pointer (some ⟨L,0,none⟩))∧LK w' w.heap.size L lv mb (.slice a n cap) (ze8 fv x (4*n))∧Below w.heap.size w w':=by
 have hmm:=@run_makeMap Try.prog
 have HR:=Lib.hid hr;clear hr
 have hC:C<w.heap.size:=za0 c0
 have hcm:∀o o2,((w.alloc o).alloc o2).cell? ⟨C,0,none⟩=some (.slice a n cap):=fun o o2=>
  (((Below.refl w.heap.size w).alloc (Nat.le_refl _) o).alloc (by simp) o2).cell (p:=⟨C,0,none⟩) hC |>.trans c0
 go_enter Try.func107,Try.ntmps107
 go_wp2
 refine zb3 fun W1 hW=>?_
 have hL:LK W1 w.heap.size (w.heap.size+1) (.slice none 0 0) w.heap.size (.slice a n cap) (ze8 fv x 0):=by
  have hm:=MapIs.made (k:=207) (ok:=okp) (κ:=kp) (ν:=vi) w
  rw[hW]
  exact⟨by simp[go_sem],by simp[go_sem],by simp[go_sem],by simp[go_sem],World.ownsRow_nil _ _ _ _,⟨0,(hm.kept (World.grownBy_alloc _ _ none) (by simp)).congr (fun p=>by simp[plD,ze8])⟩,⟨by omega,by simp[Value.ownBlock],by simp[Value.ownBlock]⟩,by omega⟩
 have hB:Below w.heap.size w W1:=by rw[hW];(repeat' (first | assumption | exact Below.refl _ _ | refine za7 ?_ (by assumption) | refine zb2 ?_ _ | refine za5 ?_ | refine zb1 ?_ (by simp<;>omega) _))
 clear hW hmm hcm
 generalize hN:w.heap.size=N at *
 have H:=Hd2 hL hB;clear hL hB
 go_loopw [23] (fun i wr=>∃t:Nat,t≤n∧i=.int .i64 t∧∃lv,LK wr N (N+1) lv N (.slice a n cap) (ze8 fv x (4*t))∧Below N w wr) (fun i _=>n-(intOf i).toNat)
 case atStart=>exact⟨0,by omega,rfl,_,H.out.1,H.out.2⟩
 case round=>
  obtain⟨t,ht,rfl,lv0,hL,hB⟩:=hrel
  have HK:=Hd2 hL hB;clear hL hB
  rcases Nat.lt_or_ge t n with hlt | hge
  ·go_wp2
   go_loopw [26] (fun i wr=>∃i':Nat,i'≤4∧i=.int .i64 i'∧∃lv,LK wr N (N+1) lv N (.slice a n cap) (ze8 fv x (4*t+i'))∧Below N w wr) (fun i _=>4-(intOf i).toNat)
   case atStart=>exact⟨0,by omega,rfl,_,HK.out.1,HK.out.2⟩
   case round=>
    clear HK
    obtain⟨i,hi,rfl,lv,hL,hB⟩:=hrel
    rcases Nat.lt_or_ge i 4 with hli | hgi
    ·have hd:=(hB.cell (p:=⟨d1,4*t+i,none⟩) (by have:=HR.out.lt;show d1<N;omega)).trans (HR.out.cell (i:=4*t+i) (by omega))
     have l0:=hL.c0
     have l1:=hL.c1
     have l2:=hL.c2
     have lf:=hL.f1
     have HK:=Hd2 hL hB
     have hb4:4*t+i<4*n:=by omega
     clear hL hB
     obtain⟨m4,hm4⟩:∃m,m=4*n:=⟨_,rfl⟩
     obtain⟨x1,hx1⟩:∃m,m=4*t:=⟨_,rfl⟩
     obtain⟨x2,hx2⟩:∃m,m=x1+i:=⟨_,rfl⟩
     have q1:IntKind.i64.wrap (4*(t:Int))=(x1:Int):=by rw[IntWalk.i64_in _ (by omega)];omega
     have q2:IntKind.i64.wrap ((x1:Int)+(i:Int))=(x2:Int):=by rw[IntWalk.i64_in _ (by omega)];omega
     have hx2m:x2<m4:=by omega
     rw[←hx1,←hx2] at hd
     rw[←hm4]
     by_cases he:(fv (4*t+i)==x)=true
     ·have HE:=Lib.hid he
      rw[←hx1,←hx2] at he
      generalize fv x2=y at *
      have HX:=Lib.hid (show x2=4*t+i by omega)
      clear hx1 hx2 hm4
      obtain⟨ga,cp,rfl⟩:=za8 HK.out.1.own
      obtain⟨m,hm⟩:∃m,m=(ze8 fv x (4*t+i)).length:=⟨_,rfl⟩
      rw[←hm] at l1
      have hm1:m≤4000:=by have:=linkKs_len fv x (4*t+i);omega
      have hown:=HK.out.1.own
      rw[←hm] at hown HK
      obtain⟨nn,hmap⟩:=HK.out.1.map
      have HMAP:=Lib.hid hmap
      have hmap_lt:=hmap.lt
      have hL1s:N+1<wr.heap.size:=za0 l0
      have HOWN:=Lib.hid hown
      have HM:=Lib.hid hm
      clear hm hown hmap
      have i4:(i:Int)<4:=by omega
      go_wp2
      refine zc1 12 (by kernel_rfl) (by kernel_rfl) ?_
      simp only[List.take_succ_cons,List.take_zero,List.drop_succ_cons,List.drop_zero]
      repeat (refine wpStill_step (fun K hK=>?_);go_simp;refine hK _ ?_;clear hK K)
      refine wpStill_nil ?_
      refine zg3 (a:=(t,i)) (c:=m) rfl 203 (.tmp 41) (.tmp 44) (.tmp 49) rfl codes207 und203 (MapIs.of_block (W':=wr.drew) HMAP.out rfl) ⟨by omega,by omega⟩ rfl rfl rfl ?_
      intro W3 hm3 hg3 hs3
      have l0':=hg3.cell (show wr.drew.cell? ⟨N+1,0,none⟩=_ from l0) (by simp)
      have l1':=hg3.cell (show wr.drew.cell? ⟨N+1,1,none⟩=_ from l1) (by simp)
      have l2':=hg3.cell (show wr.drew.cell? ⟨N+1,2,none⟩=_ from l2) (by simp)
      have hne:=HK.out.1.ne
      have hNs:=hmap_lt
      have own3:W3.ownsRow N 207 2 (.slice ga m cp) m (crs (ze8 fv x (4*t+i))):=(show wr.drew.ownsRow N 207 2 _ m _ from HOWN.out).kept hg3 (.inr hne.2.2)
      have lf':W3.frozen? ⟨N+1,1,none⟩=false:=(hg3.frozen_far ⟨N+1,1,none⟩ hL1s (by simp)).trans lf
      have hs4:N+1<W3.heap.size:=by rw[hs3];exact hL1s
      have a1:(W3.alloc (.cells #[.int .i64 (t:Int),.int .i64 (i:Int)] 207)).cell? ⟨N+1,1,none⟩=some (.slice ga m cp):=(((Below.refl _ W3).alloc (Nat.le_refl _) _).cell (p:=⟨N+1,1,none⟩) hs4).trans l1'
      have a2:(W3.alloc (.cells #[.int .i64 (t:Int),.int .i64 (i:Int)] 207)).frozen? ⟨N+1,1,none⟩=false:=(((Below.refl _ W3).alloc (Nat.le_refl _) _).frozen (p:=⟨N+1,1,none⟩) hs4).trans lf'
      have H3:=Hd5 hm3 hg3 hs3 own3 hne
      obtain⟨i0,hi0,hz0,hz1,hz2⟩:=info_parts info207
      clear hm3 hg3 hs3 own3 hne
      go_wp2_with (at_builtin;refine wpList_append_lies _ rfl (.tmp 54) (.tmp 58) 204 rfl N 207 i0 _ 2 16 und204 hi0 hz0 hz1 hz2 rfl (by omega) (.slice ga m cp) m _ rfl (H3.out.2.2.2.1.alloc _) ⟨W3.heap.size,0,none⟩ 1 1 [.int .i64 (t:Int),.int .i64 (i:Int)] rfl rfl (World.news_of_block (cs:=#[.int .i64 (t:Int),.int .i64 (i:Int)]) (heap_alloc_new W3 _)) (by simp[Value.oneCell']) (by omega) (by unfold maxLen;omega) (by omega) (by simp;omega) (W3.heap.size+1) (by simp) ?_;intro g cap2 w1 hown1 hgrow hat hlt2;have c1:=hgrow.cell a1 (fun q=>H3.out.2.2.2.2.2.1 q.symm);have f1:=(hgrow.frozen_far ⟨N+1,1,none⟩ (by simp;omega) (fun q=>H3.out.2.2.2.2.2.1 q.symm)).trans a2;have HA:=Hd4 hown1 hgrow hat hlt2;clear hown1 hgrow hat hlt2)
      have hX:=LK.snoc (nn:=if (plD (ze8 fv x (4*t+i)) (t,i)).isSome=true then nn else nn+1) hli HK.out.1 HK.out.2 HE.out HM.out H3.out.1 H3.out.2.1 H3.out.2.2.1 HA.out.1 HA.out.2.1 HA.out.2.2.1 c1 f1
      exact⟨⟨i+1,by omega,rfl,_,hX.1,hX.2⟩,by simp[intOf];omega⟩
     ·have he:(fv (4*t+i)==x)=false:=by simpa using he
      have HE:=Lib.hid he
      rw[←hx1,←hx2] at he
      generalize fv x2=y at *
      have HX:=Lib.hid (show x2=4*t+i by omega)
      clear hx1 hx2 hm4
      go_wp2
      go_roundw
      case rel=>
       refine⟨i+1,by omega,rfl,lv,?_,HK.out.2⟩
       show LK _ _ _ _ _ _ (ze8 fv x ((4*t+i)+1))
       rw[linkKs_succ,if_neg (by rw[HE.out];simp)]
       exact HK.out.1
      case measure=>simp[intOf];omega
    ·obtain rfl:i=4:=by omega
     have HK:=Hd2 hL hB;clear hL hB
     go_wp2
     go_roundw
     case rel=>exact⟨t+1,by omega,rfl,lv,HK.out.1,HK.out.2⟩
     case measure=>simp[intOf];omega
  ·obtain rfl:t=n:=by omega
   go_wp2
   go_ret
   exact⟨N+1,lv0,N,rfl,by rw[hN];exact HK.out.1,by rw[hN];exact HK.out.2⟩
end
end Go.Proofs.Ytlckpgahijlmoaa
