/- The law CoverImages: its walk. -/
import Derived.Test.YtlckpgahijlmoaaQ50
import Derived.Test.YtlckpgahijlmoaaQ51
import Derived.Test.YtlckpgahijlmoaaQ42
import Derived.Test.YtlckpgahijlmoaaQ29
import Derived.Test.YtlckpgahijlmoaaQ36
import Derived.Test.YtlckpgahijlmoaaQ43
import Derived.Test.YtlckpgahijlmoaaQ39
import Derived.Test.YtlckpgahijlmoaaQ15
set_option maxRecDepth 100000
set_option maxHeartbeats 8000000
namespace Go.Proofs.Ytlckpgahijlmoaa
section
open Go.RowKit Go.Shelf Go.Maps
attribute [local go_sem] Oper.semAt_some
def GrpAns (G:Gl)(w:World)(e:Ending)(w':World):Prop:=
 Below w.heap.size w w'∧(e=.returned (.tuple #[.agg #[.int .i64 0,.slice none 0 0],.int .i64 2])∨∃rels rv,e=.returned (.tuple #[.agg #[.int .i64 ((gnN G (4*G.n):Nat):Int),rv],.int .i64 0])∧LLc w'.heap.size w' rv rels.length (rlen rels) (rnum rels) ∧
  (∀r,r∈rels→RelOf G r∧r.length≤600000)∧rels.length≤6*G.n∧∀q,q<6*G.n→MetE G rels q)
structure FB (w W:World)(N:Nat)(v:Value):Prop where
 bel:Below N w W
 c0:W.cell? ⟨N,0,none⟩=some v
 r0:W.cell? ⟨N+1,0,none⟩=some (.int .i64 0)
 r1:W.cell? ⟨N+1,1,none⟩=some (.slice none 0 0)
 rf:∀o,W.frozen? ⟨N+1,o,none⟩=false
 lt:N+2≤W.heap.size
theorem FB.grown {w W W':World}{N:Nat}{v:Value}(h:FB w W N v)(hg:W.grownBy W' none):FB w W' N v:=by
 have hl:=h.lt
 have hs:=hg.size
 exact⟨h.bel.grown hg (by omega) (fun k e=>by cases e),hg.cell h.c0 (by simp),hg.cell h.r0 (by simp),hg.cell h.r1 (by simp),fun o=>(hg.frozen_far ⟨N+1,o,none⟩ (by show N+1<_;omega) (by simp)).trans (h.rf o),by omega⟩
theorem FB.below {w W W':World}{N:Nat}{v:Value}(h:FB w W N v)(hb:Below W.heap.size W W'):FB w W' N v:=h.grown (za6 hb (Nat.le_refl _) none)
theorem mx1_zero {f:Nat→Int}{n:Nat}(h:∀i,i<n→f i=0):∀k,k<n→mx1 f k=0
 | 0,hk=>h 0 hk
 | k+1,hk=>by
  have ih:=mx1_zero h k (by omega)
  have:=h (k+1) hk
  simp only[mx1];omega
theorem gOf_walk {G:Gl}(hask:askI G=0)(hone:oneB G=true)(v:Value)(w:World)(hG:GlAt w.heap.size w v G):Calls Try.prog 38 #[.agg #[v]] w (GrpAns G w):=by
 obtain⟨hok,hr⟩:=askI_zero.1 hask
 have hn:=zg5 hok
 simp only[oneB,Bool.and_eq_true,decide_eq_true_eq,List.all_eq_true,List.mem_range,beq_iff_eq] at hone
 obtain⟨hn0,hpt⟩:=hone
 have hck:zd6 G=0:=by unfold zd6;rw[hok];rfl
 obtain⟨a,cap,rfl⟩:∃a cap,v=.slice a G.n cap:=by obtain⟨a,_,_,cap,e,_⟩:=hG;exact⟨a,cap,e⟩
 have HC:=Hd5 hok hr hG hpt hck
 obtain⟨N,hN⟩:∃N,N=w.heap.size:=⟨_,rfl⟩
 have HN:=Lib.hid hN
 clear hask hok hr hG hpt hck
 refine (callsIn_wide (n:=6)).1 ?_
 refine callsIn_of_wp_marks Try.func38 rfl trivial ?_ rfl
 simp only[Try.ntmps38,List.size_toArray,List.length_cons,List.length_nil,Nat.reduceAdd,Nat.reduceSub,Array.replicate_succ,Array.replicate_zero,List.push_toArray,List.append_toArray,List.nil_append,List.cons_append]
 refine wpIn_wide.2 ?_
 go_wp2_with fail
 rw[←hN]
 obtain⟨Wa,hWa⟩:∃Wa,Wa=(w.alloc (.cells #[.slice a G.n cap] 24)).alloc (.cells #[.int .i64 0,.slice none 0 0] 69):=⟨_,rfl⟩
 have hFa:FB w Wa N (.slice a G.n cap):=by
  rw[hWa,hN]
  exact⟨by (repeat' (first | assumption | exact Below.refl _ _ | refine za7 ?_ (by assumption) | refine zb2 ?_ _ | refine za5 ?_ | refine zb1 ?_ (by simp<;>omega) _)),by simp[go_sem],by simp[go_sem],by simp[go_sem],fun o=>by simp[go_sem],by simp⟩
 rw[←hWa]
 have hGa:=HC.out.2.2.1.below (hN▸hFa.bel)
 refine (Check_walk G (.slice a G.n cap) Wa (hGa.mono (by have:=hFa.lt;omega)) (by omega)).mono ?_
 rintro e W1 ⟨rfl,hb1⟩
 rw[HC.out.2.2.2.2]
 have hF1:=hFa.below hb1
 have HF1:=Lib.hid hF1
 have c0:=hF1.c0
 clear hWa hFa hGa hb1 hF1 hN
 go_wp2_with fail
 refine (PParts_walk G HC.out.1 (.slice a G.n cap) W1 ((HC.out.2.2.1.below (HN.out▸HF1.out.bel)).mono (by have:=HF1.out.lt;have:=HN.out;omega))).mono ?_
 rintro e W2 ⟨d,h,rfl,hrow,hh,hb2⟩
 have hF2:=HF1.out.below hb2
 have HF2:=Lib.hid hF2
 have c2:=hF2.c0
 have hz:mx1 h (G.n-1)=0:=mx1_zero (n:=G.n) (fun i hi=>by rw[hh i hi];exact (ptN_zero HC.out.1 hi).2 (HC.out.2.2.2.1 i hi)) _ (by omega)
 have hsm:=smax_walk d G.n h hn0 (by omega) W2 hrow
 rw[hz] at hsm
 have q1:((G.n:Int)==0)=false:=by simp;omega
 have HSM:=Lib.hid hsm
 clear hb2 hF2 hrow hh hz hsm c0
 go_wp2_with (go_at_call 74;(with_reducible refine HSM.out.mono ?_);rintro e3 w3 ⟨rfl,rfl⟩)
 refine (crossings_walk G HC.out.1 hn0 (.slice a G.n cap) w3 ((HC.out.2.2.1.below (HN.out▸HF2.out.bel)).mono (by have:=HF2.out.lt;have:=HN.out;omega))).mono ?_
 rintro e W3 ⟨o,rfl,hrow,ho,hb3⟩
 have hF3:=HF2.out.below hb3
 have hl3:=hF3.lt
 have ho3:=hrow.lt
 have ho2:=HF2.out.lt
 have HF3:=Hd2 hF3 hrow
 have c3:=hF3.c0
 have hmm:=@run_makeMap Try.prog
 obtain⟨gens,hgens⟩:∃g,g=gnN G (4*G.n):=⟨_,rfl⟩
 rw[←hgens]
 have HGE:=Lib.hid hgens
 clear hb3 hF3 hrow c2 hgens
 have c3a:=fun o1 o2 o3 o4=>za4 (za4 (za4 (za4 c3 o1) o2) o3) o4
 go_wp2_with fail
 obtain⟨B,hB⟩:∃B,B=W3.heap.size:=⟨_,rfl⟩
 rw[←hB]
 refine zb3 fun W4 hW4=>?_
 have hO:OW w W4 N (B+4) (B+1+1) (B+1+1+1) B o (B+1) G (.slice a G.n cap) gens [] (fun _=>false) [] (.slice none 0 0) []:=by
  obtain⟨hF3,hrow⟩:=HF3.out
  have g:=fun (W:World) (o:Obj)=>World.grownBy_alloc W o none
  have hg:W3.grownBy W4 none:=by rw[hW4];exact za2 (g _ _) (za2 (g _ _) (za2 (g _ _) (g _ _)))
  have hF4:=hF3.grown hg
  have hz:W4.heap.size=B+4:=by rw[hW4,hB];simp
  have hmp:MapIs W4 82 okp kp bv (B+1+1) 0 (fun _=>none):=by
   have:=MapIs.made (k:=82) (ok:=okp) (κ:=kp) (ν:=bv) ((W3.alloc (.cells #[.slice (some ⟨o,0,none⟩) G.n G.n] 49)).alloc (.cells #[.int .i64 (gens:Int),.slice none 0 0] 69))
   have h2:=this.kept (World.grownBy_alloc _ (.cells #[.map (some (B+1+1))] 134) none) (by simp)
   rw[hW4]
   simpa [hB] using h2
  refine⟨hF4.bel,hF4.c0,hF4.r0,hF4.r1,hF4.rf,?_,za3 hrow hg (by simp),?_,⟨0,hmp.congr (fun p=>by simp[mD])⟩,?_,?_,?_,World.ownsRow_nil _ _ _ _,fun j r hj=>(by simp at hj),Marks.nil _ _,by omega⟩
  ·rw[hW4,hB];simp[go_sem]
  ·rw[hW4,hB];simp[go_sem]
  ·rw[hW4,hB];simp[go_sem]
  ·rw[hW4,hB];simp[go_sem]
  ·rw[hW4,hB];simp[go_sem]
 have S:OS N (B+4) (B+1+1) (B+1+1+1) B o (B+1):=⟨⟨by omega,by omega,by omega,by omega,by omega,by omega⟩,⟨by omega,by omega,by omega,by omega,by omega,by omega⟩,⟨by omega,by omega,by omega,by omega,by omega⟩⟩
 have hBl:N+2≤B:=by omega
 clear hW4 c3a hmm c3 hB
 refine gtets_walk HC.out.1 HC.out.2.1 (HN.out▸HC.out.2.2.1) S _ _ _ rfl rfl rfl rfl rfl rfl rfl hO ?_
 rintro tm2 ds2 W5 rels mt rv xs hK2 hO2 hP2
 obtain⟨u2,hu2,-⟩:=frame130 tm2 hK2.size
 simp only at hu2
 subst hu2
 have i1:u2 1=.pointer (some ⟨N,0,none⟩):=Option.some.inj hK2.k1
 have i2:u2 2=.pointer (some ⟨N+1,0,none⟩):=Option.some.inj hK2.k2
 have i9:u2 9=.pointer (some ⟨B+1,0,none⟩):=Option.some.inj hK2.k9
 obtain⟨ra,rc,rfl⟩:=za8 hO2.own
 have hlen:=hP2.len
 have hLL:=hO2.LLc
 have hsl:=sumL_le (rlen rels) 600000 rels.length (fun k hk=>by
  have hm:rels.getD k []∈rels:=by
   rw[List.getD_eq_getElem?_getD,List.getElem?_eq_getElem hk]
   exact List.getElem_mem hk
  exact (hP2.rel _ hm).2)
 have hgb:gens≤4000:=by have:=gnN_le G (4*G.n);have:=HGE.out;omega
 have h79:=gcheck_walk gens rels.length (rlen rels) (rnum rels) (.slice ra rels.length rc) W5 hLL (by omega) (by omega) (by omega)
 have p0:=hO2.p0
 have p1:=hO2.p1
 have H5:=Hd3 hO2 hP2 hLL
 cases hpb:presB gens rels.length (rlen rels) (rnum rels) with
 | false=>
  rw[hpb] at h79
  have H79:=Lib.hid h79
  clear hK2 hO2 hP2 hLL h79 hpb hO S
  go_wp2_with (go_at_call 79;(with_reducible refine H79.out.mono ?_);rintro e6 W6 ⟨rfl,hb6⟩;have hg6:=za6 hb6 (Nat.le_refl _) none;have r0:=hg6.cell H5.out.1.r0 (by simp);have r1:=hg6.cell H5.out.1.r1 (by simp);have rf:∀o,W6.frozen? ⟨N+1,o,none⟩=false:=(fun o=>(hg6.frozen_far ⟨N+1,o,none⟩ (show N+1<_ from za0 H5.out.1.r0) (by simp)).trans (H5.out.1.rf o));have H6:=Lib.hid hg6;clear hg6 hb6)
  obtain⟨W7,hW7⟩:∃W7,W7=(W6.setCell ⟨N+1,0,none⟩ (.int .i64 0)).setCell ⟨N+1,1,none⟩ (.slice none 0 0):=⟨_,rfl⟩
  have z0:W7.cell? ⟨N+1,0,none⟩=some (.int .i64 0):=by rw[hW7];exact (World.cell?_setCell_other (a:=⟨N+1,1,none⟩) (b:=⟨N+1,0,none⟩) _ _ (by simp)).trans (World.cell?_setCell_same _ _ _ r0)
  have z1:W7.cell? ⟨N+1,1,none⟩=some (.slice none 0 0):=by rw[hW7];exact World.cell?_setCell_same _ _ _ ((World.cell?_setCell_other (a:=⟨N+1,0,none⟩) (b:=⟨N+1,1,none⟩) _ _ (by simp)).trans r1)
  have g7:W6.grownBy W7 (some (N+1)):=by rw[hW7];exact za2 (za1 W6 (N+1) 0 _) (za1 _ (N+1) 1 _)
  have hmk:Marks ds2 W7 N:=(H5.out.1.marks.grown H6.out).kept (fun r _ hr=>(g7.block r (Array.getElem?_eq_some_iff.1 hr).1 (fun e=>by cases e;obtain⟨c,t,f,e2⟩:=zc7 r0;rw[hr] at e2;cases e2)).trans hr)
  have hs5:=H5.out.1.size
  have hs6:=H6.out.size
  have hs7:=g7.size
  have hb7:Below N w W7:=(H5.out.1.bel.grown H6.out (by omega) (fun k e=>by cases e)).grown g7 (by omega) (fun k e=>by cases e;omega)
  rw[←hW7]
  refine hmk.leaves2 (by simp) (by omega) (fun W' hb' hs'=>⟨.tuple #[.agg #[(.int .i64 0),(.slice none 0 0)],.int .i64 2],?_,?_⟩)
  ·have k0:=hs'.cell z0
   have k1:=hs'.cell z1
   simp[results,Try.f38,go_sem,k0,k1]
  ·refine⟨by rw[←HN.out];exact hb7.trans hb',.inl rfl⟩
 | true=>
  rw[hpb] at h79
  have H79:=Lib.hid h79
  clear hK2 hO2 hP2 hLL h79 hpb hO S
  go_wp2_with (go_at_call 79;(with_reducible refine H79.out.mono ?_);rintro e6 W6 ⟨rfl,hb6⟩;have hg6:=za6 hb6 (Nat.le_refl _) none;have r0:=hg6.cell H5.out.1.r0 (by simp);have r1:=hg6.cell H5.out.1.r1 (by simp);have rf:∀o,W6.frozen? ⟨N+1,o,none⟩=false:=(fun o=>(hg6.frozen_far ⟨N+1,o,none⟩ (show N+1<_ from za0 H5.out.1.r0) (by simp)).trans (H5.out.1.rf o));have q0:=hg6.cell p0 (by simp);have q2:=hg6.cell p1 (by simp);have H6:=Lib.hid hg6;clear hg6 hb6)
  obtain⟨W7,hW7⟩:∃W7,W7=(W6.setCell ⟨N+1,0,none⟩ (.int .i64 (gens:Int))).setCell ⟨N+1,1,none⟩ (.slice ra rels.length rc):=⟨_,rfl⟩
  have z0:W7.cell? ⟨N+1,0,none⟩=some (.int .i64 (gens:Int)):=by rw[hW7];exact (World.cell?_setCell_other (a:=⟨N+1,1,none⟩) (b:=⟨N+1,0,none⟩) _ _ (by simp)).trans (World.cell?_setCell_same _ _ _ r0)
  have z1:W7.cell? ⟨N+1,1,none⟩=some (.slice ra rels.length rc):=by rw[hW7];exact World.cell?_setCell_same _ _ _ ((World.cell?_setCell_other (a:=⟨N+1,0,none⟩) (b:=⟨N+1,1,none⟩) _ _ (by simp)).trans r1)
  have g7:W6.grownBy W7 (some (N+1)):=by rw[hW7];exact za2 (za1 W6 (N+1) 0 _) (za1 _ (N+1) 1 _)
  have hmk:Marks ds2 W7 N:=(H5.out.1.marks.grown H6.out).kept (fun r _ hr=>(g7.block r (Array.getElem?_eq_some_iff.1 hr).1 (fun e=>by cases e;obtain⟨c,t,f,e2⟩:=zc7 r0;rw[hr] at e2;cases e2)).trans hr)
  have hs5:=H5.out.1.size
  have hs6:=H6.out.size
  have hs7:=g7.size
  have hb7:Below N w W7:=(H5.out.1.bel.grown H6.out (by omega) (fun k e=>by cases e)).grown g7 (by omega) (fun k e=>by cases e;omega)
  have nb:∀{x:Value} {e sz n:Nat} {ys:List Value},W5.ownsRow (B+4) e sz x n ys→x.ownBlock=none∨x.ownBlock≠some (N+1):=fun h=>.inr (fun e=>by have:=(h.lt _ e).1;omega)
  have ng:∀{x:Value} {e sz n:Nat} {ys:List Value},W5.ownsRow (B+4) e sz x n ys→x.ownBlock=none∨x.ownBlock≠none:=fun {x} _ _ _ _ _=>by cases x.ownBlock<;>simp
  have hL7:=rels_LLc ((H5.out.1.own.kept H6.out (ng H5.out.1.own)).kept g7 (nb H5.out.1.own)) (fun j r hr=>by
   obtain⟨x,h1,h2⟩:=H5.out.1.rows j r hr
   exact⟨x,h1,(h2.kept H6.out (ng h2)).kept g7 (nb h2)⟩)
  rw[←hW7]
  refine hmk.leaves2 (by simp) (by omega) (fun W' hb' hs'=>⟨.tuple #[.agg #[(.int .i64 (gens:Int)),(.slice ra rels.length rc)],.int .i64 0],?_,?_⟩)
  ·have k0:=hs'.cell z0
   have k1:=hs'.cell z1
   simp[results,Try.f38,go_sem,k0,k1]
  ·refine⟨by rw[←HN.out];exact hb7.trans hb',.inr ⟨rels,.slice ra rels.length rc,by rw[HGE.out],(hL7.same hs' ?_),H5.out.2.1.rel,hlen,fun q hq=>?_⟩⟩
   ·have:=hb'.size;omega
   ·have hm:=H5.out.2.1.met _ (H5.out.2.1.all q hq)
    rw[show 6*((q / 6,q % 6):Nat×Nat).1+((q / 6,q % 6):Nat×Nat).2=q from by show 6*(q / 6)+q % 6=q;omega] at hm
    exact hm
end
section
open Go.RowKit Go.Shelf Go.Maps
theorem frame150 (tm:Array Value)(h:tm.size=150):∃u:Nat→Value,tm=#[u 0,u 1,u 2,u 3,u 4,u 5,u 6,u 7,u 8,u 9,u 10,u 11,u 12,u 13,u 14,u 15,u 16,u 17,u 18,u 19,u 20,u 21,u 22,u 23,u 24,u 25,u 26,u 27,u 28,u 29,u 30,u 31,u 32,u 33,u 34,u 35,u 36,u 37,u 38,u 39,u 40,u 41,u 42,u 43,u 44,u 45,u 46,u 47,u 48,u 49,u 50,u 51,u 52,u 53,u 54,u 55,u 56,u 57,u 58,u 59,u 60,u 61,u 62,u 63,u 64,u 65,u 66,u 67,u 68,u 69,u 70,u 71,u 72,u 73,u 74,u 75,u 76,u 77,u 78,u 79,u 80,u 81,u 82,u 83,u 84,u 85,u 86,u 87,u 88,u 89,u 90,u 91,u 92,u 93,u 94,u 95,u 96,u 97,u 98,u 99,u 100,u 101,u 102,u 103,u 104,u 105,u 106,u 107,u 108,u 109,u 110,u 111,u 112,u 113,u 114,u 115,u 116,u 117,u 118,u 119,u 120,u 121,u 122,u 123,u 124,u 125,u 126,u 127,u 128,u 129,u 130,u 131,u 132,u 133,u 134,u 135,u 136,u 137,u 138,u 139,u 140,u 141,u 142,u 143,u 144,u 145,u 146,u 147,u 148,u 149]∧∀i,i<150→tm[i]?=some (u i):=by
 refine⟨fun i=>tm.getD i undef,(range_getD tm 150 h).trans rfl,fun i hi=>?_⟩
 simp[Array.getElem?_eq_getElem (show i<tm.size by omega)]
theorem moved_any {s ni:Nat}{li:Nat→Nat}{fi:Nat→Nat→Int}(ia:Option Addr)(ic:Nat){W:World}(hp:∀k,k<ni→permB (li k) (fi k) (s:Int)=true)(hiv:LLc W.heap.size W (.slice ia ni ic) ni li fi)(hni:ni≤48){x:Int}(l1:x≠0)(l2:x≤(ni:Int))(l3:-x≤(ni:Int))(hs:s≤24){at1:Nat}(hat:at1<s) :
  ∃y:Nat,y=mvN li fi x at1∧y<s∧Calls Try.prog 39 #[.slice ia ni ic,.int .i64 x,.int .i64 (at1:Int)] W fun e w'=>e=.returned (.int .i64 (y:Int))∧w'=W:=by
 rcases Int.lt_or_le 0 x with hx0 | hx0
 ·obtain⟨g,rfl⟩:∃g:Nat,x=(g:Int)+1:=⟨(x-1).toNat,by omega⟩
  have hg:g<ni:=by omega
  obtain⟨e1,e2⟩:=mvN_pos hp hg hat
  have hls:=zg1 (hp g hg)
  refine⟨_,rfl,e2,?_⟩
  rw[←e1]
  exact moved_pos (.slice ia ni ic) ni li fi W g at1 hiv hg (by omega) (by omega) (by omega)
 ·obtain⟨g,rfl⟩:∃g:Nat,x=-((g:Int)+1):=⟨(-x-1).toNat,by omega⟩
  have hg:g<ni:=by omega
  obtain⟨e1,e2⟩:=mvN_neg hp hg hat
  have hls:=zg1 (hp g hg)
  refine⟨_,rfl,e2,?_⟩
  rw[←e1]
  exact moved_neg (.slice ia ni ic) ni li fi W g at1 hiv hg (by omega) (by omega) (by omega)
def kRest8 (f:Func):Code:=cR (cR (cR (cR (cR (cR (cR (cR (f.body.getD .skip))))))))
theorem images_rest (G:Gl)(s ni:Nat)(li:Nat→Nat)(fi:Nat→Nat→Int)(w W:World)(N:Nat)(hN:N≤W.heap.size)(hbel:Below N w W)(a:Option Addr)(cap:Nat)(c0:W.cell? ⟨N,0,none⟩=some (.slice a G.n cap))(hG:GlAt W.heap.size W (.slice a G.n cap) G)(ia:Option Addr)(ic:Nat)(hiv:LLc W.heap.size W (.slice ia ni ic) ni li fi)(hn:G.n≤12)
  (ci:Int) (hci:ci=imgI G (s:Int) ni li fi) (him:ci=0∨ci=110)
  (tm:Array Value) (hsz:tm.size=150) (s1:tm[1]?=some (.int .i64 (s:Int))) (s2:tm[2]?=some (.slice ia ni ic)) (s3:tm[3]?=some (.pointer (some ⟨N,0,none⟩))) (s12:tm[12]?=some (.int .i64 ci)) :
  (kRest8 Try.f8).wp Try.prog (bodyPost Try.prog Try.f8 fun e w'=>e=.returned (.bool true)∧Below N w w') { tmps:=tm,defers:=[] } W:=by
 refine of_seq rfl ?_
 rw[hci] at him
 obtain⟨h0,h1,h2,h3,h4,h5,h6,-⟩:=imgI_cases him
 have hok:=(askI_zero.1 h0).1
 have HC:=Hd6 hok him h5 hci hiv h4
 have hOf:=gOf_walk h0 h1 _ W hG
 have hgn:=gnN_le G (4*G.n)
 obtain⟨u,hu,-⟩:=frame150 tm hsz
 subst hu
 have e1:u 1=.int .i64 (s:Int):=Option.some.inj s1
 have e2:u 2=.slice ia ni ic:=Option.some.inj s2
 have e3:u 3=.pointer (some ⟨N,0,none⟩):=Option.some.inj s3
 have e12:u 12=.int .i64 ci:=Option.some.inj s12
 have hni:ni≤48:=by omega
 have hs24:s≤24:=by omega
 clear s1 s2 s3 s12 him h0 h1 h2 h3 h5 h6 hok hiv hG hci
 go_wp2_with fail
 refine hOf.mono ?_
 rintro e W1 ⟨hb1,hans⟩
 have hB1:=hbel.trans (hb1.mono hN)
 clear hOf
 rcases hans with rfl | ⟨rels,rv,rfl,hLL,hrel,hlen,hmet⟩
 ·have HB1:=Hd2 hB1 (show N≤W1.heap.size from Nat.le_trans hN hb1.size)
  clear hB1 hb1 hbel c0
  go_wp2_with ((go_at_call 9;(with_reducible refine (sane_walk _).mono ?_);rintro e w4 ⟨rfl,hb4⟩;have HB4:=Lib.hid ((HB1.out.1.alloc HB1.out.2 _).trans (hb4.mono (by have:=HB1.out.2;simp;omega)));clear hb4))
  go_ret
  exact⟨rfl,HB4.out⟩
 ·obtain⟨ra,rc,rfl⟩:∃a c,rv=.slice a rels.length c:=by obtain⟨a,_,_,c,e,_⟩:=hLL;exact⟨a,c,e⟩
  have hiv1:=HC.out.2.2.2.2.1
  have q1:((ni:Int)==(ni:Int))=true:=by simp
  rw[←h4]
  clear h4
  go_wp2_with fail
  refine zb3 fun W2 hW2=>?_
  obtain⟨D,hD⟩:∃D,D=W1.heap.size:=⟨_,rfl⟩
  rw[←hD]
  have hal:W1.grownBy W2 none:=by rw[hW2];exact World.grownBy_alloc W1 _ none
  have hb12:Below W1.heap.size W1 W2:=(Below.refl _ _).grown hal (Nat.le_refl _) (fun k e=>by cases e)
  have dg:W2.cell? ⟨D,0,none⟩=some (.int .i64 (ni:Int)):=by rw[hW2,hD];simp[go_sem]
  have hB2:Below N w W2:=hB1.trans (hb12.mono (Nat.le_trans hN hb1.size))
  have hLL2:=(hLL.below hb12).mono hb12.size
  have hiv2:=(hiv1.below (hb1.trans (hb12.mono hb1.size))).mono (Nat.le_trans hb1.size hb12.size)
  have hlaw:=img_law HC.out.2.1 (fun r hr=>(hrel r hr).1) hmet
  have HX:=Hd7 hB2 hLL2 hiv2 hrel hlaw dg (show N≤W2.heap.size from Nat.le_trans hN (Nat.le_trans hb1.size hb12.size))
  obtain⟨nr,hnr⟩:∃n,n=rels.length:=⟨_,rfl⟩
  rw[←hnr] at hlen ⊢
  have HNR:=Lib.hid hnr
  clear hnr hW2 hD hal hb12 dg hB2 hLL2 hiv2 hlaw hrel hmet hB1 hb1 hLL hiv1 c0 hbel
  go_loopw [17,100] (fun fl i wz=>∃(k:Nat) (b:Bool),k≤nr∧i=.int .i64 k∧fl=.bool b∧wz=W2∧(b=true↔ActN li fi s rels k)) (fun _ i _=>nr-(intOf i).toNat)
  case atStart=>exact⟨0,true,by omega,rfl,rfl,rfl,by simp[ActN]⟩
  case round=>
   obtain⟨k,b,hk,rfl,rfl,hwz,hb⟩:=hrel
   obtain rfl:=hwz.symm
   have HB:=Lib.hid hb
   clear hb
   rcases Nat.lt_or_ge k nr with hkn | hkn
   ·obtain⟨_,pb,po,_,e,r1,r2⟩:=HX.out.2.1
    obtain⟨rfl,-,rfl⟩:=by simpa using e
    obtain⟨rfl,hpB⟩:=r1 (by have:=HNR.out;omega)
    obtain⟨qa,qb,qo,qc,q1',q2,q3,q4⟩:=r2 k (by have:=HNR.out;omega)
    have hrl:rlen rels k≤600000:=(HX.out.2.2.2.1 _ (getD_mem (by have:=HNR.out;omega))).2
    have hre:RelOf G (rels.getD k []):=(HX.out.2.2.2.1 _ (getD_mem (by have:=HNR.out;omega))).1
    obtain⟨l,hl⟩:∃l,l=rlen rels k:=⟨_,rfl⟩
    rw[←hl] at q1' q2 q3 q4 hrl
    have HQ:=Hd4 hl q3 q4 hre
    have k0:0≤(k:Int):=by omega
    have kn:(k:Int)<(nr:Int):=by omega
    clear r1 r2 q2 q3 q4 hl hre e
    go_wp2
    go_loopw [17,20] (fun fl i wz=>∃(c:Nat) (b2:Bool),c≤s∧i=.int .i64 c∧fl=.bool b2∧wz=W2∧(b2=true↔ActN li fi s rels k∧∀i,i<c→actW li fi (rels.getD k []) i=i)) (fun _ i _=>s-(intOf i).toNat)
    case atStart=>exact⟨0,b,by omega,rfl,rfl,rfl,by rw[HB.out];simp⟩
    case round=>
     obtain⟨c,b2,hc,rfl,rfl,hwz,hb2⟩:=hrel
     obtain rfl:=hwz.symm
     have HB2:=Lib.hid hb2
     clear hb2
     rcases Nat.lt_or_ge c s with hcs | hcs
     ·have qc1:decide ((c:Int)<(s:Int))=true:=by simp;omega
      cases b2 with
      | false=>
       go_wp2
       refine⟨⟨k+1,false,by omega,by simp,rfl,trivial,⟨fun h=>(by cases h),fun h=>?_⟩⟩,by simp[intOf];omega⟩
       have h2:=ActN.succ.1 h
       exact HB2.out.2 ⟨h2.1,fun i hi=>h2.2 i (by omega)⟩
      | true=>
       have h2:=HB2.out.1 rfl
       have HA2:=Lib.hid h2
       clear h2
       go_wp2
       go_loopw [21,115] (fun at' i wz=>∃(m:Nat),m≤l∧i=.int .i64 m∧at'=.int .i64 (actW li fi ((rels.getD k []).take m) c:Nat)∧wz=W2∧actW li fi ((rels.getD k []).take m) c<s) (fun _ i _=>l-(intOf i).toNat)
       case atStart=>exact⟨0,by omega,rfl,by simp[actW],rfl,by simpa [actW] using hcs⟩
       case round=>
        obtain⟨m,hm,rfl,rfl,hwz,hat⟩:=hrel
        obtain rfl:=hwz.symm
        obtain⟨at1,hat1⟩:∃x,x=actW li fi ((rels.getD k []).take m) c:=⟨_,rfl⟩
        rw[←hat1] at hat ⊢
        have HAT:=Lib.hid hat1
        clear hat1
        rcases Nat.lt_or_ge m l with hml | hml
        ·obtain⟨hl,q3,q4,hre⟩:=HQ.out
         have hml2:m<(rels.getD k []).length:=by rw[hl] at hml;exact hml
         obtain⟨l1,l2,l3⟩:=rel_letter HC.out.1 hre hml2
         obtain⟨rfl,-⟩:=q3 (by omega)
         have c4:=q4 m hml
         have hst:=actW_take (li:=li) (fi:=fi) hml2 c
         rw[←HAT.out] at hst
         obtain⟨x,hx⟩:∃x,x=(rels.getD k []).getD m 0:=⟨_,rfl⟩
         have hx2:rnum rels k m=x:=hx.symm
         rw[hx2] at c4
         rw[←hx] at hst l1 l2 l3
         rw[←HC.out.2.2.2.2.2] at l2 l3
         have HST:=Lib.hid hst
         have m0:0≤(m:Int):=by omega
         have ml:(m:Int)<(l:Int):=by omega
         have x0:(x==0)=false:=by simpa using l1
         have x1:decide ((ni:Int)<x)=false:=by simp;omega
         have x2:IntKind.i64.wrap (-x)=-x:=IntWalk.i64_in _ (by omega)
         have x3:decide ((ni:Int) < -x)=false:=by simp;omega
         have dg:=HX.out.2.2.2.2.2.1
         have hmv:=moved_any ia ic HC.out.2.2.1 HX.out.2.2.1 hni l1 l2 l3 hs24 hat
         obtain⟨y,hy,hys,hcall⟩:=hmv
         rw[←hy] at HST
         have HCL:=Lib.hid hcall
         clear hl q3 q4 hre hml2 hst hx hx2 hcall hy
         go_wp2_with (go_at_call 39;(with_reducible refine HCL.out.mono ?_);rintro e9 w9 ⟨rfl,rfl⟩)
         refine⟨⟨m+1,by omega,by simp,?_,trivial,?_⟩,by simp[intOf];omega⟩
         ·rw[HST.out]
         ·rw[HST.out];exact hys
        ·obtain rfl:m=l:=by omega
         go_wp2
         have hfin:at1=actW li fi (rels.getD k []) c:=by
          rw[HAT.out]
          have h:=actW_all (li:=li) (fi:=fi) (r:=rels.getD k []) c
          rw[show (rels.getD k []).length=m from HQ.out.1.symm] at h
          exact h
         refine⟨⟨c+1,_,by omega,by simp,rfl,trivial,?_⟩,by simp[intOf];omega⟩
         rw[beq_iff_eq,Int.natCast_inj,hfin]
         constructor
         ·intro h
          refine⟨HA2.out.1,fun i hi=>?_⟩
          rcases Nat.lt_or_ge i c with q | q
          ·exact HA2.out.2 i q
          ·rw[show i=c by omega];exact h
         ·intro h
          exact h.2 c (by omega)
     ·have qc1:decide ((c:Int)<(s:Int))=false:=by simp;omega
      go_wp2
      obtain rfl:c=s:=by omega
      refine⟨⟨k+1,b2,by omega,by simp,rfl,trivial,?_⟩,by simp[intOf];omega⟩
      rw[HB2.out,ActN.succ]
   ·obtain rfl:k=nr:=by omega
    have HBk:=Lib.hid (show Below N w W2 from HX.out.1)
    go_wp2_with ((go_at_call 9;(with_reducible refine (sane_walk _).mono ?_);rintro e w4 ⟨rfl,hb4⟩;have HB4:=Lib.hid (HBk.out.trans (hb4.mono HX.out.2.2.2.2.2.2));clear hb4))
    refine bodyPost_ret (v:=.bool (b==(ci==0))) (by simp[results,Try.f8,go_sem]) rfl ⟨?_,HB4.out⟩
    have hl:=HX.out.2.2.2.2.1
    have hk2:=HB.out
    rw[HNR.out,ActN.all,hl,←HC.out.2.2.2.1] at hk2
    have:(b==(ci==0))=true:=by
     by_cases h:ci=0
     ·rw[hk2.2 h];simp[h]
     ·have hb:b=false:=by
       cases hb:b with
       | false=>rfl
       | true=>exact absurd (hk2.1 hb) h
      rw[hb];simp[h]
    rw[this]
end
section
open Go.RowKit Go.Shelf Go.Maps
noncomputable def imS (G:Gl)(S:Int)(ni:Nat)(li:Nat→Nat)(fi:Nat→Nat→Int):Int:=if imgI G S ni li fi=0 then S else 0
noncomputable def imN (G:Gl)(S:Int)(ni:Nat)(li:Nat→Nat)(fi:Nat→Nat→Int):Nat:=if imgI G S ni li fi=0 then nF G else 0
theorem ImgAns.two {G:Gl}{S:Int}{ni:Nat}{li:Nat→Nat}{fi:Nat→Nat→Int}{e:Ending}{w':World}(h:ImgAns G S ni li fi e w'):∃a c,e=.returned (.tuple #[.agg #[.int .i64 (imS G S ni li fi),.slice a (imN G S ni li fi) c],.int .i64 (imgI G S ni li fi)]) ∧
  LLs w'.heap.size w' (.slice a (imN G S ni li fi) c) (imN G S ni li fi) (fun _=>(imS G S ni li fi).toNat) (imgF G fi):=by
 obtain⟨s,pv,rfl,⟨h0,rfl,rfl⟩ | ⟨h0,rfl,hl⟩⟩:=h
 ·have e1:imS G S ni li fi=0:=if_neg h0
  have e2:imN G S ni li fi=0:=if_neg h0
  rw[e1,e2]
  exact⟨none,0,rfl,none,0,0,0,rfl,fun h=>absurd h (Nat.lt_irrefl 0),fun k hk=>absurd hk (Nat.not_lt_zero k)⟩
 ·have e1:imS G s ni li fi=s:=if_pos h0
  have e2:imN G s ni li fi=nF G:=if_pos h0
  rw[e1,e2]
  obtain⟨a,_,_,c,rfl,_⟩:=id hl
  exact⟨a,c,rfl,hl⟩
theorem imS_small (G:Gl)(S:Int)(ni:Nat)(li:Nat→Nat)(fi:Nat→Nat→Int):(imS G S ni li fi).toNat≤24:=by
 unfold imS
 split
 ·rename_i h
  have:=imgI_cases (.inl h)
  omega
 ·decide
theorem imN_small (G:Gl)(S:Int)(ni:Nat)(li:Nat→Nat)(fi:Nat→Nat→Int):imN G S ni li fi≤4*G.n:=by
 unfold imN
 split
 ·exact zg7 _ _
 ·omega
noncomputable def orS (G:Gl):Int:=if orI G=0 then 2 else 0
noncomputable def orN (G:Gl):Nat:=if orI G=0 then nF G else 0
theorem OrA.two {G:Gl}{e:Ending}{w':World}(h:OrA G e w'):∃a c,e=.returned (.tuple #[.agg #[.int .i64 (orS G),.slice a (orN G) c],.int .i64 (orI G)])∧LLs w'.heap.size w' (.slice a (orN G) c) (orN G) (fun _=>(orS G).toNat) (orF G):=by
 obtain⟨s,pv,rfl,⟨h0,rfl,rfl⟩ | ⟨h0,rfl,hl⟩⟩:=h
 ·have e1:orS G=0:=if_neg h0
  have e2:orN G=0:=if_neg h0
  rw[e1,e2]
  exact⟨none,0,rfl,none,0,0,0,rfl,fun h=>absurd h (Nat.lt_irrefl 0),fun k hk=>absurd hk (Nat.not_lt_zero k)⟩
 ·have e1:orS G=2:=if_pos h0
  have e2:orN G=nF G:=if_pos h0
  rw[e1,e2]
  obtain⟨a,_,_,c,rfl,_⟩:=id hl
  exact⟨a,c,rfl,hl⟩
theorem orS_small (G:Gl):(orS G).toNat≤2:=by
 unfold orS;split<;>decide
theorem orN_small (G:Gl):orN G≤4*G.n:=by
 unfold orN
 split
 ·exact zg7 _ _
 ·omega
structure CJ8 (W:World)(D:Nat)(s:Int)(a:Option Addr)(n c:Nat)(l:Nat→Nat)(f:Nat→Nat→Int):Prop where
 c0:W.cell? ⟨D,0,none⟩=some (.int .i64 s)
 c1:W.cell? ⟨D,1,none⟩=some (.slice a n c)
 ll:LLs W.heap.size W (.slice a n c) n l f
theorem CJ8.below {W W':World}{D:Nat}{s:Int}{a:Option Addr}{n c:Nat}{l:Nat→Nat}{f:Nat→Nat→Int}(h:CJ8 W D s a n c l f)(hb:Below W.heap.size W W'):CJ8 W' D s a n c l f:=
 ⟨(za6 hb (Nat.le_refl _) none).cell h.c0 (by simp),(za6 hb (Nat.le_refl _) none).cell h.c1 (by simp),(h.ll.below hb).mono hb.size⟩
structure CI1 (w:World)(N:Nat)(a:Option Addr)(n cap:Nat)(W:World):Prop where
 bel:Below N w W
 c0:W.cell? ⟨N,0,none⟩=some (.slice a n cap)
theorem CI1.below {w W W':World}{N:Nat}{a:Option Addr}{n cap:Nat}(h:CI1 w N a n cap W)(hb:Below W.heap.size W W'):CI1 w N a n cap W':=by
 have hg:=za6 hb (Nat.le_refl _) none
 have hN:=za0 h.c0
 simp only at hN
 exact⟨h.bel.trans (hb.mono (by omega)),hg.cell h.c0 (by simp)⟩
section
variable (G:Gl)(v:Value)(S:Int)(iv:Value)(ni:Nat)(li:Nat→Nat)(fi:Nat→Nat→Int)(w:World)(hG:GlAt w.heap.size w v G)(hm:G.n≤9223372036854775807)(hiv:LLc w.heap.size w iv ni li fi)(hli:∀k,k<ni→li k<4611686018427387904)(hni:ni<4611686018427387904)
include hG hm hiv hli hni
theorem images_walk:Calls Try.prog 8 #[.agg #[v],.int .i64 S,iv] w fun e w'=>e=.returned (.bool true)∧Below w.heap.size w w':=by
 obtain⟨a,cap,rfl⟩:∃a c,v=.slice a G.n c:=by obtain⟨a,_,_,c,e,_⟩:=hG;exact⟨a,c,e⟩
 obtain⟨ia,ic,rfl⟩:∃a c,iv=.slice a ni c:=by obtain⟨a,_,_,c,e,_⟩:=hiv;exact⟨a,c,e⟩
 have hat:=fun W (h:CI1 w w.heap.size a G.n cap W)=>
  And.intro ((hG.below h.bel).mono h.bel.size:GlAt W.heap.size W (.slice a G.n cap) G) ((hiv.below h.bel).mono h.bel.size:LLc W.heap.size W (.slice ia ni ic) ni li fi)
 have HLN:=Lib.hid hli
 clear hG hiv hli
 generalize hN:w.heap.size=N at *
 have HA:=Lib.hid hat
 clear hat
 go_enter Try.func8,Try.ntmps8
 have hb0:∀o1,Below w.heap.size w (w.alloc o1):=fun o1=>by (repeat' (first | assumption | exact Below.refl _ _ | refine za7 ?_ (by assumption) | refine zb2 ?_ _ | refine za5 ?_ | refine zb1 ?_ (by simp<;>omega) _))
 rw[hN] at hb0
 have HB0:=Lib.hid hb0
 clear hb0
 rcases Nat.lt_or_ge 12 G.n with g0 | g0
 ·have q0:decide ((12:Int)<(G.n:Int))=true:=by simp;omega
  go_wp2_with ((go_at_call 9;(with_reducible refine (sane_walk _).mono ?_);rintro e w4 ⟨rfl,hb4⟩;have HB4:=Lib.hid ((HB0.out _).trans (hb4.mono (by simp;omega)));clear hb4))
  go_ret
  exact⟨rfl,HB4.out⟩
 have q0:decide ((12:Int)<(G.n:Int))=false:=by simp;omega
 go_wp2_with fail
 refine zb4 fun W0 hW=>?_
 have h0:CI1 w N a G.n cap W0:=by
  rw[hW];exact⟨HB0.out _,by subst hN;simp[go_sem]⟩
 clear hW HB0
 obtain⟨cs,hcs⟩:∃x,x=imS G S ni li fi:=⟨_,rfl⟩
 obtain⟨cn,hcn⟩:∃x,x=imN G S ni li fi:=⟨_,rfl⟩
 obtain⟨ci,hci⟩:∃x,x=imgI G S ni li fi:=⟨_,rfl⟩
 have hcs24:cs.toNat≤24:=by rw[hcs];exact imS_small _ _ _ _ _
 have hcn48:cn≤48:=by have:=imN_small G S ni li fi;omega
 have HCE:=Hd3 hcs hcn hci
 clear hcs hcn hci
 obtain⟨os,hos⟩:∃x,x=orS G:=⟨_,rfl⟩
 obtain⟨on,hon⟩:∃x,x=orN G:=⟨_,rfl⟩
 obtain⟨oi,hoi⟩:∃x,x=orI G:=⟨_,rfl⟩
 have hos2:os.toNat≤2:=by rw[hos];exact orS_small G
 have hon48:on≤48:=by have:=orN_small G;omega
 have HOE:=Hd3 hos hon hoi
 clear hos hon hoi
 refine (rimage_walk G (.slice a G.n cap) S (.slice ia ni ic) ni li fi W0 (HA.out _ h0).1 hm (HA.out _ h0).2 HLN.out hni).mono ?_
 rintro e W1 ⟨hb1,hans⟩
 obtain⟨xa,xc,rfl,hll⟩:=hans.two
 rw[←HCE.out.1,←HCE.out.2.1] at hll
 rw[←HCE.out.1,←HCE.out.2.1,←HCE.out.2.2]
 have h1:=h0.below hb1
 have y0:=za4 h1.c0
 have H1:=Hd2 h1 hll
 clear h0 hb1 hans hll h1
 go_wp2_with fail
 refine zb4 fun W2 hW=>?_
 obtain⟨D,hD⟩:∃D,D=W1.heap.size:=⟨_,rfl⟩
 rw[←hD]
 have hb2:Below W1.heap.size W1 W2:=by rw[hW];(repeat' (first | assumption | exact Below.refl _ _ | refine za7 ?_ (by assumption) | refine zb2 ?_ _ | refine za5 ?_ | refine zb1 ?_ (by simp<;>omega) _))
 have h2:=H1.out.1.below hb2
 have hx2:CJ8 W2 D cs xa cn xc (fun _=>cs.toNat) (imgF G fi):=⟨by rw[hW,hD];simp[go_sem],by rw[hW,hD];simp[go_sem],(H1.out.2.below hb2).mono hb2.size⟩
 clear hW hD hb2 H1 y0
 refine (rorcov_walk G (.slice a G.n cap) W2 (HA.out _ h2).1 hm).mono ?_
 rintro e W3 ⟨hb3,hans⟩
 obtain⟨za,zc,rfl,hll⟩:=hans.two
 rw[←HOE.out.1,←HOE.out.2.1] at hll
 rw[←HOE.out.1,←HOE.out.2.1,←HOE.out.2.2]
 have h3:=h2.below hb3
 have hx3:=hx2.below hb3
 have y0:=za4 h3.c0
 have H3:=Hd3 h3 hx3 hll
 clear h2 hb3 hans hll h3 hx2 hx3
 go_wp2_with fail
 refine zb4 fun W4 hW=>?_
 obtain⟨E,hE⟩:∃E,E=W3.heap.size:=⟨_,rfl⟩
 rw[←hE]
 have hb4:Below W3.heap.size W3 W4:=by rw[hW];(repeat' (first | assumption | exact Below.refl _ _ | refine za7 ?_ (by assumption) | refine zb2 ?_ _ | refine za5 ?_ | refine zb1 ?_ (by simp<;>omega) _))
 have h4:=H3.out.1.below hb4
 have hx4:=H3.out.2.1.below hb4
 have hz4:CJ8 W4 E os za on zc (fun _=>os.toNat) (orF G):=⟨by rw[hW,hE];simp[go_sem],by rw[hW,hE];simp[go_sem],(H3.out.2.2.below hb4).mono hb4.size⟩
 clear hW hE hb4 H3 y0
 refine (cimage_walk G (.slice a G.n cap) S (.slice ia ni ic) ni li fi W4 (HA.out _ h4).1 hm (HA.out _ h4).2.LLs HLN.out hni).mono ?_
 rintro e W5 ⟨hb5,hans⟩
 obtain⟨ta,tc,rfl,hll⟩:=hans.two
 rw[←HCE.out.1,←HCE.out.2.1] at hll
 rw[←HCE.out.1,←HCE.out.2.1,←HCE.out.2.2]
 have h5:=h4.below hb5
 have hx5:=hx4.below hb5
 have hz5:=hz4.below hb5
 have y0:=za4 h5.c0
 have H5:=Hd4 h5 hx5 hz5 hll
 clear h4 hb5 hans hll h5 hx4 hx5 hz4 hz5
 go_wp2_with fail
 refine zb4 fun W6 hW=>?_
 obtain⟨F,hF⟩:∃F,F=W5.heap.size:=⟨_,rfl⟩
 rw[←hF]
 have hb6:Below W5.heap.size W5 W6:=by rw[hW];(repeat' (first | assumption | exact Below.refl _ _ | refine za7 ?_ (by assumption) | refine zb2 ?_ _ | refine za5 ?_ | refine zb1 ?_ (by simp<;>omega) _))
 have h6:=H5.out.1.below hb6
 have hx6:=H5.out.2.1.below hb6
 have hz6:=H5.out.2.2.1.below hb6
 have ht6:CJ8 W6 F cs ta cn tc (fun _=>cs.toNat) (imgF G fi):=⟨by rw[hW,hF];simp[go_sem],by rw[hW,hF];simp[go_sem],(H5.out.2.2.2.below hb6).mono hb6.size⟩
 clear hW hF hb6 H5 y0
 refine (Orientation_two G (.slice a G.n cap) W6 (HA.out _ h6).1 hm).mono ?_
 rintro e W7 ⟨hb7,hans⟩
 obtain⟨oa,oc,rfl,hll⟩:=(OrAns.ora hans).two
 rw[←HOE.out.1,←HOE.out.2.1] at hll
 rw[←HOE.out.1,←HOE.out.2.1,←HOE.out.2.2]
 have h7:=h6.below hb7
 have hx7:=hx6.below hb7
 have hz7:=hz6.below hb7
 have ht7:=ht6.below hb7
 have y0:=za4 h7.c0
 have y1:=za4 hx7.c0
 have y2:=za4 hx7.c1
 have y3:=za4 ht7.c0
 have y4:=za4 ht7.c1
 have H7:=Hd5 h7 hx7 hz7 ht7 hll
 clear h6 hb7 hans hll h7 hx6 hx7 hz6 hz7 ht6 ht7
 go_wp2_with fail
 obtain⟨J,hJ⟩:∃J,J=W7.heap.size:=⟨_,rfl⟩
 rw[←hJ]
 refine zb4 fun W8 hW=>?_
 have hb8:Below W7.heap.size W7 W8:=by rw[hW];(repeat' (first | assumption | exact Below.refl _ _ | refine za7 ?_ (by assumption) | refine zb2 ?_ _ | refine za5 ?_ | refine zb1 ?_ (by simp<;>omega) _))
 have h8:=H7.out.1.below hb8
 have hx8:=H7.out.2.1.below hb8
 have hz8:=H7.out.2.2.1.below hb8
 have ht8:=H7.out.2.2.2.1.below hb8
 have ho8:CJ8 W8 J os oa on oc (fun _=>os.toNat) (orF G):=⟨by rw[hW,hJ];simp[go_sem],by rw[hW,hJ];simp[go_sem],(H7.out.2.2.2.2.below hb8).mono hb8.size⟩
 clear hW hJ hb8 H7 y0 y1 y2 y3 y4
 refine (rsame_walk cs cn (fun _=>cs.toNat) (imgF G fi) (by omega) (fun _ _=>by show cs.toNat<_;omega) W8.heap.size W8 (Nat.le_refl _) _ _ ht8.ll hx8.ll).mono ?_
 rintro e W9 ⟨rfl,hb9⟩
 have h9:=h8.below hb9
 have hz9:=hz8.below hb9
 have ho9:=ho8.below hb9
 have y0:=ho9.c0
 have y1:=ho9.c1
 have y2:=hz9.c0
 have y3:=hz9.c1
 have H9:=Hd3 h9 hz9 ho9
 clear h8 hx8 hz8 ht8 ho8 hb9 h9 hz9 ho9
 go_wp2_with fail
 refine (rsame_walk os on (fun _=>os.toNat) (orF G) (by omega) (fun _ _=>by show os.toNat<_;omega) W9.heap.size W9 (Nat.le_refl _) _ _ H9.out.2.2.ll H9.out.2.1.ll).mono ?_
 rintro e W10 ⟨rfl,hb10⟩
 have h10:=H9.out.1.below hb10
 have H10:=Lib.hid h10
 have c10:=h10.c0
 clear hb10 h10 y0 y1 y2 y3 H9
 have hNs:N≤W10.heap.size:=by have:=H10.out.bel.size;omega
 by_cases hz:ci=0∨ci=110
 ·have him:imgI G S ni li fi=0∨imgI G S ni li fi=110:=by rw[←HCE.out.2.2];exact hz
  obtain⟨s,rfl⟩:∃s:Nat,S=(s:Int):=⟨S.toNat,by have:=imgI_cases him;omega⟩
  have hG10:=(HA.out _ H10.out).1
  have hI10:=(HA.out _ H10.out).2
  have HR:=Hd5 hG10 hI10 hz HCE.out.2.2 H10.out.bel
  clear him hG10 hI10
  rcases hz with rfl | rfl
  all_goals
   dsimp only
   repeat (first | exact images_rest G s ni li fi w W10 N hNs HR.out.2.2.2.2 a cap c10 HR.out.1 ia ic HR.out.2.1 g0 _ HR.out.2.2.2.1 HR.out.2.2.1 _ rfl rfl rfl rfl rfl | go_step)
 ·have q1:(ci !=0)=true:=by simpa using fun h=>hz (.inl h)
  have q2:(ci !=110)=true:=by simpa using fun h=>hz (.inr h)
  clear hz
  go_wp2_with ((go_at_call 9;(with_reducible refine (sane_walk _).mono ?_);rintro e w4 ⟨rfl,hb4⟩;have HB4:=Lib.hid (H10.out.bel.trans (hb4.mono hNs));clear hb4))
  go_ret
  exact⟨rfl,HB4.out⟩
end
end
end Go.Proofs.Ytlckpgahijlmoaa
