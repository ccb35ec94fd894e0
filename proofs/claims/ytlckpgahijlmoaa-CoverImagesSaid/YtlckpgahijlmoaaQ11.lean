/- The one gluing that sane reads: its text, its words, its faces. -/
import Derived.Test.YtlckpgahijlmoaaQ10
set_option maxRecDepth 100000
set_option maxHeartbeats 8000000
namespace Go.Proofs.Ytlckpgahijlmoaa
section
open Go.RowKit Go.Shelf Go.Maps
def invP (f:Nat→Int):Nat→Nat→Int
 | 0=>fun _=>0
 | k+1=>fun x=>if (x:Int)=f k then (k:Int) else invP f k x
theorem zf1 {l:Nat}{f:Nat→Int}{n:Int}(h:permB l f n=true):(l:Int)=n∧∀i,i<l→0≤f i∧f i<n:=by
 simp only[permB,Bool.and_eq_true,beq_iff_eq,permP,List.all_eq_true,List.mem_range,decide_eq_true_eq] at h
 exact⟨h.2,fun i hi=>⟨(h.1 i hi).1.1,(h.1 i hi).1.2⟩⟩
theorem invList_walk (l:Nat)(f:Nat→Int)(hp:permB l f l=true)(hl:l≤1000000)(B:Nat)(w:World)(hB:B≤w.heap.size)(v:Value)(hv:SI B w v l f) :
  Calls Try.prog 116 #[v] w fun e w'=>e=.returned (.slice (some ⟨w.heap.size,0,none⟩) l l)∧zb7 w' w.heap.size l (invP f l)∧Below w.heap.size w w':=by
 have hmk:=run_make_row' (P:=Try.prog) 35 3 (.int .i64 0) 8 und35 info3 rfl .i64 .i64 l (by omega) (by omega)
 have HP:=Lib.hid (zf1 hp).2;clear hp
 have HV:=Lib.hid hv
 obtain⟨a,b,off,cap,rfl,ha,hc⟩:=hv
 have HC:=Hd2 ha hc;clear ha hc
 go_enter Try.func116,Try.ntmps116
 go_wp2
 refine zb3 fun W1 hW=>?_
 have hr:zb7 W1 w.heap.size l (invP f 0):=by
  rw[hW];exact (World.rowIs_made w (.int .i64 0) l 3).congr (fun i _=>by simp[invP])
 have hb:Below w.heap.size w W1:=by rw[hW];(repeat' (first | assumption | exact Below.refl _ _ | refine za7 ?_ (by assumption) | refine zb2 ?_ _ | refine za5 ?_ | refine zb1 ?_ (by simp<;>omega) _))
 clear hmk hW
 generalize hN:w.heap.size=N at *
 have H1:=Hd2 hr hb;clear hr hb
 go_loopw [11] (fun i wr=>∃k:Nat,k≤l∧i=.int .i64 k∧zb7 wr N l (invP f k)∧Below N w wr) (fun i _=>l-(intOf i).toNat)
 case atStart=>exact⟨0,by omega,rfl,H1.out.1,H1.out.2⟩
 case round=>
  clear H1
  obtain⟨k,hk,rfl,hr,hb⟩:=hrel
  rcases Nat.lt_or_ge k l with hkn | hkn
  ·obtain⟨rfl,hbB⟩:=HC.out.1 (by omega)
   have hx:=(hb.cell (p:=⟨b,off+k,none⟩) (by show b<N;omega)).trans (HC.out.2 k hkn)
   obtain⟨p1,p2⟩:=HP.out k hkn
   obtain⟨y,hy⟩:∃y:Nat,f k=(y:Int):=⟨(f k).toNat,by omega⟩
   rw[hy] at hx
   have hyl:y<l:=by omega
   have hc:=hr.cell hyl
   have hf:=hr.frozen y
   have k0:0≤(k:Int):=by omega
   have kl:(k:Int)<(l:Int):=by omega
   have y0:0≤(y:Int):=by omega
   have yl:(y:Int)<(l:Int):=by omega
   have HK:=Hd3 hr hb hy;clear hr hb hy p1 p2
   generalize invP f k y=z at *
   go_wp2
   go_roundw
   case rel=>
    refine⟨k+1,by omega,rfl,(HK.out.1.set y _).congr (fun i hi=>?_),HK.out.2.1.setCell (Nat.le_refl _) _⟩
    simp only[invP,HK.out.2.2]
    by_cases e:i=y
    ·subst e;simp
    ·have:¬(i:Int)=(y:Int):=by omega
     simp[e,this]
   case measure=>simp[intOf];omega
  ·obtain rfl:k=l:=by omega
   have HK:=Hd2 hr hb;clear hr hb
   go_wp2
   go_ret
   rw[hN]
   exact⟨rfl,HK.out.1,HK.out.2⟩
theorem grown_any {A B:World}(h:A.grownBy B none)(row:Option Nat):A.grownBy B row:=⟨h.os,h.tape,h.output,h.size,fun k hk _=>h.block k hk (by simp)⟩
def frAt (e k:Nat):Nat:=2+((List.range k).filter (fun j=>j !=pA e && j !=pB e)).length
def frC (e:Nat):Nat→Nat→Nat
 | 0=>fun i=>if i=0 then pA e else if i=1 then pB e else 0
 | k+1=>if k≠pA e∧k≠pB e then fun i=>if i=frAt e k then k else frC e k i else frC e k
theorem frAt_lt:∀e,e<6→∀k,k<4→k≠pA e→k≠pB e→frAt e k<4:=by decide
theorem frAt_succ (e k:Nat):frAt e (k+1)=if k≠pA e∧k≠pB e then frAt e k+1 else frAt e k:=by
 unfold frAt
 rw[List.range_succ,List.filter_append]
 by_cases h:k≠pA e∧k≠pB e
 ·simp[h.1,h.2];omega
 ·rw[if_neg h]
  have:(k !=pA e && k !=pB e)=false:=by
   cases h2:(k !=pA e && k !=pB e) with
   | false=>rfl
   | true=>simp at h2;exact absurd h2 h
  simp[this]
def frS (t e:Nat):Nat×Nat×Nat×Nat×Nat:=(t,frC e 4 0,frC e 4 1,frC e 4 2,frC e 4 3)
theorem frC_lt:∀e,e<6→(frC e 4 0<4∧frC e 4 1<4∧frC e 4 2<4∧frC e 4 3<4)∧(frC e 4 0≠frC e 4 1∧frC e 4 0≠frC e 4 2∧frC e 4 0≠frC e 4 3∧frC e 4 1≠frC e 4 2∧frC e 4 1≠frC e 4 3∧frC e 4 2≠frC e 4 3):=by decide
theorem frame_walk (e:Nat)(he:e<6)(w:World) :
  Calls Try.prog 118 #[.int .i64 (e:Int)] w fun x w'=>x=.returned (.agg #[.int .i64 (frC e 4 0:Nat),.int .i64 (frC e 4 1:Nat),.int .i64 (frC e 4 2:Nat),.int .i64 (frC e 4 3:Nat)])∧Below w.heap.size w w':=by
 go_enter Try.func118,Try.ntmps118
 go_wp2_with fail
 refine (Ends_walk e he _).mono ?_
 rintro x W1 ⟨rfl,hb⟩
 have z1:∀o,o<4→W1.cell? ⟨w.heap.size,o,none⟩=some (.int .i64 0):=fun o ho=>(hb.cell (p:=⟨w.heap.size,o,none⟩) (by simp)).trans (by
  obtain rfl | rfl | rfl | rfl:o=0∨o=1∨o=2∨o=3:=by omega
  all_goals simp[go_sem])
 have zf:∀o,W1.frozen? ⟨w.heap.size,o,none⟩=false:=fun o=>(hb.frozen (p:=⟨w.heap.size,o,none⟩) (by simp)).trans (by simp[go_sem])
 have hbw:Below w.heap.size w W1:=by (repeat' (first | assumption | exact Below.refl _ _ | refine za7 ?_ (by assumption) | refine zb2 ?_ _ | refine za5 ?_ | refine zb1 ?_ (by simp<;>omega) _))
 have hs:=hb.size
 simp at hs
 have HZ:=Hd3 z1 zf hbw
 clear z1 zf hbw hb
 go_wp2
 refine zb3 fun W2 hW=>?_
 have hr:W2.rowIs W1.heap.size 85 4 (fun i=>.int .i64 (frC e 0 i:Nat)):=by
  rw[hW]
  refine World.rowIs_alloc W1 #[.int .i64 (pA e:Nat),.int .i64 (pB e:Nat),.int .i64 0,.int .i64 0] 85 _ (fun i hi=>?_)
  have:i=0∨i=1∨i=2∨i=3:=by simp at hi;omega
  rcases this with rfl | rfl | rfl | rfl<;>simp[frC]
 have hg:W1.grownBy W2 none:=by rw[hW];exact World.grownBy_alloc W1 _ none
 clear hW
 generalize hM:W1.heap.size=M at *
 have H2:=Hd2 hr hg;clear hr hg
 go_loopw [16,6] (fun i a wr=>∃k:Nat,k≤4∧i=.int .i64 k∧a=.int .i64 (frAt e k:Nat)∧wr.rowIs M 85 4 (fun i=>.int .i64 (frC e k i:Nat))∧W1.grownBy wr (some M)) (fun i _ _=>4-(intOf i).toNat)
 case atStart=>exact⟨0,by omega,rfl,by simp[frAt],H2.out.1,grown_any H2.out.2 _⟩
 case round=>
  clear H2
  obtain⟨k,hk,rfl,rfl,hr,hg⟩:=hrel
  rcases Nat.lt_or_ge k 4 with hk4 | hk4
  ·have hlt:=frAt_lt e he k hk4
   have hsu:=frAt_succ e k
   have hcc:∀i,frC e (k+1) i=if k≠pA e∧k≠pB e then (if i=frAt e k then k else frC e k i) else frC e k i:=fun i=>by
    show (if k≠pA e∧k≠pB e then fun i=>if i=frAt e k then k else frC e k i else frC e k) i=_
    split<;>rfl
   generalize hA:frAt e k=A at *
   have HK:=Hd4 hr hg hsu hcc
   clear hg hsu hcc
   by_cases h1:k=pA e
   ·have q1:((k:Int) !=(pA e:Int))=false:=by rw[←h1];simp
    have HH:=Lib.hid h1
    generalize pA e=PA at *
    generalize pB e=PB at *
    clear h1 hlt hr
    go_wp2
    go_roundw
    case rel=>
     obtain⟨r1,r2,r3,r4⟩:=HK.out
     rw[if_neg (fun h=>h.1 HH.out)] at r3
     exact⟨k+1,by omega,rfl,by rw[r3],r1.congr (fun i _=>by rw[r4,if_neg (fun h=>h.1 HH.out)]),r2⟩
    case measure=>simp[intOf];omega
   ·by_cases h2:k=pB e
    ·have q1:((k:Int) !=(pA e:Int))=true:=by simp;omega
     have q2:((k:Int) !=(pB e:Int))=false:=by rw[←h2];simp
     have HH:=Lib.hid h2
     generalize pA e=PA at *
     generalize pB e=PB at *
     clear h1 h2 hlt hr
     go_wp2
     go_roundw
     case rel=>
      obtain⟨r1,r2,r3,r4⟩:=HK.out
      rw[if_neg (fun h=>h.2 HH.out)] at r3
      exact⟨k+1,by omega,rfl,by rw[r3],r1.congr (fun i _=>by rw[r4,if_neg (fun h=>h.2 HH.out)]),r2⟩
     case measure=>simp[intOf];omega
    ·have q1:((k:Int) !=(pA e:Int))=true:=by simp;omega
     have q2:((k:Int) !=(pB e:Int))=true:=by simp;omega
     have hA4:=hlt h1 h2
     have HH:=Hd2 h1 h2
     have hc:=hr.cell hA4
     have hf:=hr.frozen A
     have A0:0≤(A:Int):=by omega
     have A4:(A:Int)<4:=by omega
     generalize pA e=PA at *
     generalize pB e=PB at *
     clear h1 h2 hlt hr
     go_wp2
     go_roundw
     case rel=>
      obtain⟨r1,r2,r3,r4⟩:=HK.out
      rw[if_pos HH.out] at r3
      refine⟨k+1,by omega,rfl,by rw[r3];rfl,(r1.set A _).congr (fun i _=>?_),za2 r2 (za1 _ _ _ _)⟩
      rw[r4,if_pos HH.out]
      by_cases q:i=A<;>simp[q]
     case measure=>simp[intOf];omega
  ·obtain rfl:k=4:=by omega
   have e0:=hr.cell (i:=0) (by omega)
   have e1:=hr.cell (i:=1) (by omega)
   have e2:=hr.cell (i:=2) (by omega)
   have e3:=hr.cell (i:=3) (by omega)
   have z:=fun o ho=>hg.cell (HZ.out.1 o ho) (by simp;omega)
   have zf:∀o,wr.frozen? ⟨w.heap.size,o,none⟩=false:=fun o=>(hg.frozen_far ⟨w.heap.size,o,none⟩ (by show w.heap.size<_;omega) (by simp;omega)).trans (HZ.out.2.1 o)
   have z0:=z 0 (by omega)
   have z1:=z 1 (by omega)
   have z2:=z 2 (by omega)
   have z3:=z 3 (by omega)
   have HB:=Lib.hid (zc8 HZ.out.2.2 hg (by omega) (by omega))
   clear z hr hg
   obtain⟨v0,hv0⟩:∃v,v=((frC e 4 0:Nat):Int):=⟨_,rfl⟩
   rw[←hv0] at e0
   obtain⟨v1,hv1⟩:∃v,v=((frC e 4 1:Nat):Int):=⟨_,rfl⟩
   rw[←hv1] at e1
   obtain⟨v2,hv2⟩:∃v,v=((frC e 4 2:Nat):Int):=⟨_,rfl⟩
   rw[←hv2] at e2
   obtain⟨v3,hv3⟩:∃v,v=((frC e 4 3:Nat):Int):=⟨_,rfl⟩
   rw[←hv3] at e3
   have HV:=Hd4 hv0 hv1 hv2 hv3
   clear hv0 hv1 hv2 hv3
   go_wp2
   refine bodyPost_ret (v:=.agg #[.int .i64 v0,.int .i64 v1,.int .i64 v2,.int .i64 v3]) (by simp[results,Try.results118,go_sem, *]) rfl ⟨by rw[←HV.out.1,←HV.out.2.1,←HV.out.2.2.1,←HV.out.2.2.2],?_⟩
   exact (((HB.out.setCell (Nat.le_refl _) _).setCell (Nat.le_refl _) _).setCell (Nat.le_refl _) _).setCell (Nat.le_refl _) _
end
section
open Go.RowKit Go.Shelf
abbrev iv (xs:List Int):List Value:=xs.map fun x=>Value.int .i64 x
def OL (W:World)(base:Nat)(v:Value)(xs:List Int):Prop:=W.ownsRow base 3 1 v xs.length (iv xs)
theorem OL.nil (W:World)(base:Nat):OL W base (.slice none 0 0) []:=World.ownsRow_nil _ _ _ _
theorem OL.kept {W W':World}{base:Nat}{v:Value}{xs:List Int}{row:Option Nat}(h:OL W base v xs)(hg:W.grownBy W' row)(hne:v.ownBlock=none∨v.ownBlock≠row):OL W' base v xs:=World.ownsRow.kept h hg hne
theorem OL.lt {W:World}{base:Nat}{v:Value}{xs:List Int}(h:OL W base v xs):∀k,v.ownBlock=some k→base≤k∧k<W.heap.size:=World.ownsRow.lt h
def DistR (base:Nat)(v:Value)(xs:List Int)(w:World)(e:Ending)(w':World):Prop:=
 ∃v' xs',e=.returned v'∧OL w' base v' xs'∧xs'.length≤xs.length+1∧w.grownBy w' v.ownBlock∧(v'.ownBlock=v.ownBlock∨∃g,v'.ownBlock=some g∧w.heap.size≤g)
theorem distinct_walk (base:Nat)(v:Value)(xs:List Int)(x:Int)(w:World)(hown:OL w base v xs)(hlen:xs.length≤100000)(hbase:base≤w.heap.size) :
  Calls Try.prog 122 #[v,.int .i64 x] w (DistR base v xs w):=by
 obtain⟨n,hn⟩:∃n,n=xs.length:=⟨_,rfl⟩
 obtain⟨la,lc,rfl⟩:∃la lc,v=.slice la n lc:=by obtain⟨a,c,h⟩:=za8 hown;exact⟨a,c,by rw[hn];exact h⟩
 have hcell:∀k,k<n→∃g y,la=some ⟨g,0,none⟩∧xs[k]?=some y∧w.cell? ⟨g,k,none⟩=some (.int .i64 y):=fun k hk=>by
  rcases hown.2 with ⟨h1,h2⟩ | ⟨g,cap,cur,h1,_⟩
  ·omega
  ·simp only[Value.slice.injEq] at h1
   obtain⟨y,hy⟩:∃y,xs[k]?=some y:=⟨_,List.getElem?_eq_getElem (by omega)⟩
   have:=World.ownsRow.cells hown (g:=g) (by simp[Value.ownBlock,h1.1]) k (.int .i64 y) (by simp[iv,hy])
   rw[Addr.add_mid] at this
   exact⟨g,y,h1.1,hy,by simpa using this⟩
 rw[←hn] at hlen
 have HC:=Lib.hid hcell
 have HO:=Hd2 hown hn
 have hal:∀o,(w.alloc o).ownsRow base 3 1 (.slice la n lc) n (iv xs):=fun o=>by
  have h:=World.ownsRow.kept (w':=w.alloc o) (row:=none) hown (World.grownBy_alloc w _ none) (by cases la<;>simp[Value.ownBlock])
  rw[hn];rw[hn] at h;exact h
 have HAL:=Lib.hid hal
 clear hcell hown hn hal
 obtain⟨i0,hi0,hz30,hz31,hz32⟩:=info_parts info3
 go_enter Try.func122,Try.ntmps122
 go_wp2
 go_loop [9] (fun i=>∃k:Nat,k≤n∧i=.int .i64 k) (fun i=>n-(intOf i).toNat)
 case atStart=>exact⟨0,by omega,rfl⟩
 case round=>
  obtain⟨k,hk,rfl⟩:=hrel
  rcases Nat.lt_or_ge k n with hkn | hkn
  ·obtain⟨g,y,rfl,hy,hc⟩:=HC.out k hkn
   have k0:0≤(k:Int):=by omega
   have kn:(k:Int)<(n:Int):=by omega
   clear hy
   by_cases e:y=x
   ·have b1:(y==x)=true:=by simpa using e
    clear e
    go_wp2
    go_ret
    exact⟨_,xs,rfl,HO.out.1,by omega,zd2 _ _,.inl rfl⟩
   ·have b1:(y==x)=false:=by simpa using e
    clear e
    go_wp2
    go_round
    case rel=>exact⟨k+1,by omega,rfl⟩
    case measure=>simp[intOf];omega
  ·obtain rfl:k=n:=by omega
   have hb64:k+1≤maxLen:=by unfold maxLen;omega
   go_wp2_with (at_builtin;go_loud (refine (wpList_append_lies _ rfl (.tmp 18) (.tmp 20) 35 rfl base 3 i0 _ 1 8 und35 hi0 hz30 hz31 hz32 rfl (by omega) (.slice la k lc) k _ rfl (HAL.out _) ⟨w.heap.size,0,none⟩ 1 1 [.int .i64 x] rfl rfl (World.news_of_block (cs:=#[.int .i64 x]) (MapKept.heap_alloc w _).1) (by simp[Value.oneCell']) (by omega) hb64 (by omega) (by simp;omega) (w.heap.size+1) (by simp) ?_));intro g9 c9 w9 r1 r2 r3 r4;have H9:=Hd3 r1 r2 r3;clear r1 r2 r3 r4)
   go_ret
   obtain⟨r1,r2,r3⟩:=H9.out
   have hlen1:(xs++[x]).length=k+1:=by simp[HO.out.2]
   refine⟨_,xs++[x],rfl,?_,by simp,za2 (grown_any (World.grownBy_alloc w _ none) _) r2,?_⟩
   ·show World.ownsRow _ _ _ _ _ _ _
    rw[hlen1]
    simpa [iv] using r1
   ·rcases r3 with h | h
    ·exact .inl h.symm
    ·exact .inr ⟨g9,rfl,by omega⟩
end
section
open Go.RowKit Go.Shelf
theorem rperm_walk (l:Nat)(f:Nat→Int)(n:Nat)(hl:l<4611686018427387904)(hn:n<4611686018427387904)(B:Nat)(w:World)(a:Option Addr)(cap:Nat)(hcap:l≤cap)(hv:SI B w (.slice a l cap) l f) :
  Calls Try.prog 73 #[.slice a l cap,.int .i64 (n:Int)] w fun e w'=>e=.returned (.bool (permB l f n))∧w'=w:=by
 obtain⟨a',b,off,cap',he,ha,hc⟩:=hv
 obtain⟨rfl,rfl⟩:a=a'∧cap=cap':=by simpa using he
 have HC:=Hd2 ha hc;clear ha hc he
 go_enter Try.func73,Try.ntmps73
 by_cases hln:l=n
 ·subst hln
  have q0:((l:Int) !=(l:Int))=false:=by simp
  go_wp2
  go_loop [15] (fun i=>∃k:Nat,k≤l∧i=.int .i64 k∧permP f l k=true) (fun i=>l-(intOf i).toNat)
  case atStart=>exact⟨0,by omega,rfl,rfl⟩
  case round=>
   obtain⟨k,hk,rfl,hp⟩:=hrel
   have HP:=Lib.hid hp
   clear hp
   rcases Nat.lt_or_ge k l with hkl | hkl
   ·obtain⟨rfl,hbB⟩:=HC.out.1 (by omega)
    have hx:=HC.out.2 k hkl
    obtain⟨x,hxe⟩:∃x,x=f k:=⟨_,rfl⟩
    rw[←hxe] at hx
    have HX:=Lib.hid hxe
    have k0:0≤(k:Int):=by omega
    have kl:(k:Int)<(l:Int):=by omega
    have kc:(k:Int)≤(cap:Int):=by omega
    have kc2:k≤cap:=by omega
    clear hxe
    by_cases h0:x<0
    ·have q1:decide (x<0)=true:=by simpa using h0
     have HB:=Lib.hid (permB_false (f:=f) (n:=l) (l:=l) hkl (by rw[←HX.out];simp;intro h;omega))
     go_wp2
     go_ret
     exact⟨by rw[HB.out];rfl,rfl⟩
    ·have q1:decide (x<0)=false:=by simp;omega
     by_cases h1:(l:Int)≤x
     ·have q2:decide ((l:Int)≤x)=true:=by simpa using h1
      have HB:=Lib.hid (permB_false (f:=f) (n:=l) (l:=l) hkl (by rw[←HX.out];simp;intro _ h;omega))
      go_wp2
      go_ret
      exact⟨by rw[HB.out];rfl,rfl⟩
     ·have q2:decide ((l:Int)≤x)=false:=by simp;omega
      go_wp2
      go_loop [31] (fun i=>∃j:Nat,j≤k∧i=.int .i64 j∧∀m,m<j→f m≠f k) (fun i=>k-(intOf i).toNat)
      case atStart=>exact⟨0,by omega,rfl,fun m hm=>by omega⟩
      case round=>
       obtain⟨j,hj,rfl,hne⟩:=hrel
       have HN:=Lib.hid hne
       clear hne
       rcases Nat.lt_or_ge j k with hjk | hjk
       ·have hy:=HC.out.2 j (by omega)
        obtain⟨y,hye⟩:∃y,y=f j:=⟨_,rfl⟩
        rw[←hye] at hy
        have HY:=Lib.hid hye
        have j0:0≤(j:Int):=by omega
        have jk:(j:Int)<(k:Int):=by omega
        clear hye
        by_cases hxy:x=y
        ·have HB:=Lib.hid (permB_false (f:=f) (n:=l) (l:=l) hkl (by
          have:(List.range k).any (fun j=>f j==f k)=true:=List.any_eq_true.2 ⟨j,List.mem_range.2 hjk,by rw[←HY.out,←HX.out,hxy];simp⟩
          rw[this];simp))
         have q3:(x==y)=true:=by simpa using hxy
         go_wp2
         go_ret
         exact⟨by rw[HB.out];rfl,rfl⟩
        ·have q3:(x==y)=false:=by simpa using hxy
         go_wp2
         go_round
         case rel=>exact⟨j+1,by omega,rfl,fun m hm=>by
          rcases Nat.lt_or_ge m j with h | h
          ·exact HN.out m h
          ·rw[show m=j by omega,←HY.out,←HX.out];exact fun e=>hxy e.symm⟩
         case measure=>simp[intOf];omega
       ·obtain rfl:j=k:=by omega
        go_wp2
        go_round
        case rel=>exact⟨j+1,by omega,rfl,by
         rw[permP_succ,HP.out,←HX.out]
         have:(List.range j).any (fun m=>f m==x)=false:=List.any_eq_false.2 fun m hm=>by rw[HX.out];simpa using HN.out m (List.mem_range.1 hm)
         rw[this];simp;omega⟩
        case measure=>simp[intOf];omega
   ·obtain rfl:k=l:=by omega
    have HB:=Lib.hid (show permB k f k=true by simp[permB,HP.out])
    go_wp2
    go_ret
    exact⟨by rw[HB.out];rfl,rfl⟩
 ·have q0:((l:Int) !=(n:Int))=true:=by simpa using fun h=>hln (by omega)
  have HB:=Lib.hid (show permB l f n=false by simp[permB];intro _;omega)
  go_wp2
  go_ret
  exact⟨by rw[HB.out];rfl,rfl⟩
end
section
open Go.RowKit Go.Shelf
theorem und144:Try.prog.underlying 144=some (.slice 9):=by kernel_rfl
theorem und9:Try.prog.underlying 9=some .string:=by kernel_rfl
theorem info9:(Try.prog.info? 9).map (fun i=>(i.zero,i.size,i.bytes))=some (some (.string ⟨#[]⟩),1,16):=by kernel_rfl
def byteAt (s:ByteArray)(i:Nat):Int:=if h:i<s.size then ((s[i]'h).toNat:Int) else 0
theorem run_byte (s:ByteArray){i:Nat}(hi:i<s.size)(w:World):(Instr.index 9 (.string s) (.int .i64 (i:Int))).run Try.prog w=.ok (.int .u8 (byteAt s i)) w:=by
 rw[run_index_string _ _ _ _ _ und9,dif_pos ⟨by omega,by omega⟩,byteAt,dif_pos hi]
 simp
def wst (s:ByteArray):Nat→Int×List ByteArray
 | 0=>(-1,[])
 | i+1=>
  let q:=wst s i
  let b:=i==s.size || byteAt s i==32
  let fr:Int:=if !b && decide (q.1<0) then (i:Int) else q.1
  if b && decide (0≤fr) then (-1,q.2++[s.extract fr.toNat i]) else (fr,q.2)
theorem wst_new {s:ByteArray}{i:Nat}(hb:(i==s.size || byteAt s i==32)=false)(h:(wst s i).1<0):wst s (i+1)=((i:Int),(wst s i).2):=by
 rw[wst];simp only[hb];simp[h]
theorem wst_in {s:ByteArray}{i:Nat}(hb:(i==s.size || byteAt s i==32)=false)(h:¬(wst s i).1<0):wst s (i+1)=wst s i:=by
 rw[wst];simp only[hb];simp[h]
theorem wst_out {s:ByteArray}{i:Nat}(hb:(i==s.size || byteAt s i==32)=true)(h:(wst s i).1<0):wst s (i+1)=wst s i:=by
 rw[wst];simp only[hb]
 have:¬(0≤(wst s i).1):=by omega
 simp[this]
theorem wst_end {s:ByteArray}{i:Nat}(hb:(i==s.size || byteAt s i==32)=true)(h:¬(wst s i).1<0):wst s (i+1)=(-1,(wst s i).2++[s.extract (wst s i).1.toNat i]):=by
 rw[wst];simp only[hb]
 have:0≤(wst s i).1:=by omega
 simp[this]
theorem wst_cases (s:ByteArray)(i:Nat):(wst s (i+1)=((i:Int),(wst s i).2))∨(wst s (i+1)=wst s i)∨(0≤(wst s i).1∧wst s (i+1)=(-1,(wst s i).2++[s.extract (wst s i).1.toNat i])):=by
 by_cases h:(wst s i).1<0
 ·cases hb:(i==s.size || byteAt s i==32) with
  | false=>exact .inl (wst_new hb h)
  | true=>exact .inr (.inl (wst_out hb h))
 ·cases hb:(i==s.size || byteAt s i==32) with
  | false=>exact .inr (.inl (wst_in hb h))
  | true=>exact .inr (.inr ⟨by omega,wst_end hb h⟩)
theorem wst_bound (s:ByteArray)(i:Nat):-1≤(wst s i).1∧(wst s i).1<i:=by
 induction i with
 | zero=>simp[wst]
 | succ i ih=>
  obtain⟨h1,h2⟩:=ih
  rcases wst_cases s i with e | e | ⟨_,e⟩<;>rw[e]
  ·simp only;omega
  ·omega
  ·simp only;omega
theorem wst_len (s:ByteArray)(i:Nat):(wst s i).2.length≤i:=by
 induction i with
 | zero=>simp[wst]
 | succ i ih=>
  rcases wst_cases s i with e | e | ⟨_,e⟩<;>rw[e]
  ·simp only;omega
  ·omega
  ·simp;omega
def wordsP (s:ByteArray):List ByteArray:=(wst s (s.size+1)).2
def strs (l:List ByteArray):List Value:=l.map .string
theorem Words_walk (s:ByteArray)(hs:s.size≤200000)(w:World) :
  Calls Try.prog 80 #[.string s] w fun e w'=>∃u,e=.returned u∧w'.ownsRow w.heap.size 9 1 u (wordsP s).length (strs (wordsP s))∧Below w.heap.size w w':=by
 go_enter Try.func80,Try.ntmps80
 go_wp2
 generalize hN:w.heap.size=N at *
 go_loopw [3,4,5] (fun u fr i wr=>∃k:Nat,k≤s.size+1∧i=.int .i64 k∧fr=.int .i64 (wst s k).1∧wr.ownsRow N 9 1 u (wst s k).2.length (strs (wst s k).2)∧Below N w wr) (fun _ _ i _=>s.size+1-(intOf i).toNat)
 case atStart=>exact⟨0,by omega,rfl,rfl,World.ownsRow_nil _ _ _ _,Below.refl _ _⟩
 case round=>
  obtain⟨k,hk,rfl,rfl,hO,hb⟩:=hrel
  obtain⟨ga,gp,rfl⟩:=za8 hO
  have HK:=Hd2 hO hb
  have hNr:=hb.size
  rw[hN] at hNr
  have hbd:=wst_bound s k
  have hlen:=wst_len s k
  obtain⟨fr,hfr⟩:∃fr,fr=(wst s k).1:=⟨_,rfl⟩
  obtain⟨L,hL⟩:∃L,L=(wst s k).2.length:=⟨_,rfl⟩
  rw[←hfr] at hbd ⊢
  rw[←hL] at hlen HK ⊢
  have hbd1:=hbd.1
  have hbd2:=hbd.2
  have HF:=Hd2 hfr hL
  clear hO hb hbd hfr hL
  rcases Nat.lt_or_ge s.size k with hks | hks
  ·obtain rfl:k=s.size+1:=by omega
   have q1:decide (((s.size+1:Nat):Int)≤(s.size:Int))=false:=by simp;omega
   go_wp2
   go_ret
   refine⟨_,rfl,?_,hN▸HK.out.2⟩
   rw[hN]
   show wr.ownsRow N 9 1 (.slice ga L gp) (wst s (s.size+1)).2.length _
   rw[←HF.out.2]
   exact HK.out.1
  ·have q1:decide ((k:Int)≤(s.size:Int))=true:=by simpa using hks
   have q2:IntKind.i64.wrap ((k:Int)+1)=((k+1:Nat):Int):=by rw[IntWalk.i64_in _ (by omega)];omega
   have ks:(k:Int)≤(s.size:Int):=by omega
   have qb:((k==s.size || byteAt s k==32)=true∧fr<0)∨((k==s.size || byteAt s k==32)=true∧¬fr<0)∨((k==s.size || byteAt s k==32)=false∧fr<0)∨((k==s.size || byteAt s k==32)=false∧¬fr<0):=by
    cases (k==s.size || byteAt s k==32)<;>simp<;>omega
   have qe:(k=s.size)∨(k<s.size∧((k:Int)==(s.size:Int))=false∧(k==s.size)=false):=by
    rcases Nat.lt_or_ge k s.size with h | h
    ·exact .inr ⟨h,by simp;omega,by simp;omega⟩
    ·exact .inl (by omega)
   have qr:∀w,k<s.size→(Instr.index 9 (.string s) (.int .i64 (k:Int))).run Try.prog w=.ok (.int .u8 (byteAt s k)) w:=fun w h=>run_byte s h w
   rcases qe with qe | ⟨qe,qe1,qe2⟩
   ·have qe1:((k:Int)==(s.size:Int))=true:=by simp;omega
    have c1:(k==s.size || byteAt s k==32)=true:=by simp[qe]
    clear qb qr qe
    by_cases c2:fr<0
    ·have d1:decide (fr<0)=true:=by simpa using c2
     have d2:decide (0≤fr)=false:=by simp;omega
     have e:=wst_out c1 (HF.out.1▸c2)
     go_wp2
     go_roundw
     case rel=>exact⟨k+1,by omega,rfl,by rw[e,←HF.out.1],by rw[e,←HF.out.2];exact HK.out.1,HK.out.2⟩
     case measure=>simp[intOf];omega
    ·have d1:decide (fr<0)=false:=by simpa using c2
     have d2:decide (0≤fr)=true:=by simp;omega
     have e:=wst_end c1 (HF.out.1▸c2)
     have fin:∀g2 cp2 w2,w2.ownsRow N 9 1 (.slice (some ⟨g2,0,none⟩) (L+1) cp2) (L+1) (strs (wst s k).2++[.string (s.extract fr.toNat k)])→(wr.alloc (.cells #[.string (s.extract fr.toNat k)] 9)).grownBy w2 (Value.slice ga L gp).ownBlock→w2.ownsRow N 9 1 (.slice (some ⟨g2,0,none⟩) (L+1) cp2) (wst s (k+1)).2.length (strs (wst s (k+1)).2)∧Below N w w2:=fun g2 cp2 w2 r1 r2=>by
      refine⟨?_,(HK.out.2.alloc hNr _).grown r2 (by simp;omega) (fun j hj=>(HK.out.1.lt j hj).1)⟩
      rw[e,←HF.out.1]
      simp only[List.length_append,List.length_cons,List.length_nil,←HF.out.2,strs,List.map_append,List.map_cons,List.map_nil] at r1 ⊢
      exact r1
     have HFin:=Lib.hid fin;clear fin
     have f0:0≤fr:=by omega
     have f1:fr≤(k:Int):=by omega
     obtain⟨i3,hi3,hz30,hz31,hz32⟩:=info_parts info9
     go_wp2_with (at_builtin;refine (wpList_append_lies _ rfl (.tmp 35) (.tmp 40) 144 rfl N 9 i3 _ 1 16 und144 hi3 hz30 hz31 hz32 rfl (by omega) (.slice ga L gp) L (strs (wst s k).2) rfl (HK.out.1.alloc _) ⟨wr.heap.size,0,none⟩ 1 1 [.string (s.extract fr.toNat k)] rfl rfl (World.news_of_block (cs:=#[.string (s.extract fr.toNat k)]) (MapKept.heap_alloc wr _).1) (by simp[Value.oneCell']) (by omega) (by unfold maxLen;omega) (by omega) (by simp;omega) (wr.heap.size+1) (by simp) ?_);intro g2 cp2 w2 r1 r2 r3 r4;have HR:=Lib.hid (HFin.out g2 cp2 w2 r1 r2);clear r1 r2 r3 r4)
     go_roundw
     case rel=>exact⟨k+1,by omega,rfl,by rw[e],HR.out.1,HR.out.2⟩
     case measure=>simp[intOf];omega
   ·have qr:=fun w=>qr w qe
    rw[qe2,Bool.false_or] at qb
    rcases qb with ⟨c3,c2⟩ | ⟨c3,c2⟩ | ⟨c3,c2⟩ | ⟨c3,c2⟩
    ·have c1:(k==s.size || byteAt s k==32)=true:=by rw[qe2,c3];rfl
     have d1:decide (fr<0)=true:=by simpa using c2
     have d2:decide (0≤fr)=false:=by simp;omega
     have e:=wst_out c1 (HF.out.1▸c2)
     go_wp2
     go_roundw
     case rel=>exact⟨k+1,by omega,rfl,by rw[e,←HF.out.1],by rw[e,←HF.out.2];exact HK.out.1,HK.out.2⟩
     case measure=>simp[intOf];omega
    ·have c1:(k==s.size || byteAt s k==32)=true:=by rw[qe2,c3];rfl
     have d1:decide (fr<0)=false:=by simpa using c2
     have d2:decide (0≤fr)=true:=by simp;omega
     have e:=wst_end c1 (HF.out.1▸c2)
     have fin:∀g2 cp2 w2,w2.ownsRow N 9 1 (.slice (some ⟨g2,0,none⟩) (L+1) cp2) (L+1) (strs (wst s k).2++[.string (s.extract fr.toNat k)])→(wr.alloc (.cells #[.string (s.extract fr.toNat k)] 9)).grownBy w2 (Value.slice ga L gp).ownBlock→w2.ownsRow N 9 1 (.slice (some ⟨g2,0,none⟩) (L+1) cp2) (wst s (k+1)).2.length (strs (wst s (k+1)).2)∧Below N w w2:=fun g2 cp2 w2 r1 r2=>by
      refine⟨?_,(HK.out.2.alloc hNr _).grown r2 (by simp;omega) (fun j hj=>(HK.out.1.lt j hj).1)⟩
      rw[e,←HF.out.1]
      simp only[List.length_append,List.length_cons,List.length_nil,←HF.out.2,strs,List.map_append,List.map_cons,List.map_nil] at r1 ⊢
      exact r1
     have HFin:=Lib.hid fin;clear fin
     have f0:0≤fr:=by omega
     have f1:fr≤(k:Int):=by omega
     obtain⟨i3,hi3,hz30,hz31,hz32⟩:=info_parts info9
     go_wp2_with (at_builtin;refine (wpList_append_lies _ rfl (.tmp 35) (.tmp 40) 144 rfl N 9 i3 _ 1 16 und144 hi3 hz30 hz31 hz32 rfl (by omega) (.slice ga L gp) L (strs (wst s k).2) rfl (HK.out.1.alloc _) ⟨wr.heap.size,0,none⟩ 1 1 [.string (s.extract fr.toNat k)] rfl rfl (World.news_of_block (cs:=#[.string (s.extract fr.toNat k)]) (MapKept.heap_alloc wr _).1) (by simp[Value.oneCell']) (by omega) (by unfold maxLen;omega) (by omega) (by simp;omega) (wr.heap.size+1) (by simp) ?_);intro g2 cp2 w2 r1 r2 r3 r4;have HR:=Lib.hid (HFin.out g2 cp2 w2 r1 r2);clear r1 r2 r3 r4)
     go_roundw
     case rel=>exact⟨k+1,by omega,rfl,by rw[e],HR.out.1,HR.out.2⟩
     case measure=>simp[intOf];omega
    ·have c1:(k==s.size || byteAt s k==32)=false:=by rw[qe2,c3];rfl
     have d1:decide (fr<0)=true:=by simpa using c2
     have d2:decide (0≤fr)=false:=by simp;omega
     have e:=wst_new c1 (HF.out.1▸c2)
     go_wp2
     go_roundw
     case rel=>exact⟨k+1,by omega,rfl,by rw[e],by rw[e,←HF.out.2];exact HK.out.1,HK.out.2⟩
     case measure=>simp[intOf];omega
    ·have c1:(k==s.size || byteAt s k==32)=false:=by rw[qe2,c3];rfl
     have d1:decide (fr<0)=false:=by simpa using c2
     have d2:decide (0≤fr)=true:=by simp;omega
     have e:=wst_in c1 (HF.out.1▸c2)
     go_wp2
     go_roundw
     case rel=>exact⟨k+1,by omega,rfl,by rw[e,←HF.out.1],by rw[e,←HF.out.2];exact HK.out.1,HK.out.2⟩
     case measure=>simp[intOf];omega
end
section
open Go.RowKit Go.Shelf
theorem number_walk (s:ByteArray)(d:Nat)(hs:s.size=1)(hd:d≤9)(hb:byteAt s 0=48+d)(w:World) :
  Calls Try.prog 81 #[.string s] w fun e w'=>e=.returned (.tuple #[.int .i64 d,.bool true])∧w'=w:=by
 have hr:=fun w=>run_byte s (i:=0) (by omega) w
 rw[hb] at hr
 have hr0:∀w,(Instr.index 9 (.string s) (.int .i64 0)).run Try.prog w=.ok (.int .u8 (48+d)) w:=hr
 have e1:decide (48+(d:Int)<48)=false:=by simp;omega
 have e2:decide (57<48+(d:Int))=false:=by simp;omega
 have e3:IntKind.u8.wrap (48+(d:Int)-48)=(d:Int):=by
  have:48+(d:Int)-48=d:=by omega
  rw[this]
  have hd':d=0∨d=1∨d=2∨d=3∨d=4∨d=5∨d=6∨d=7∨d=8∨d=9:=by omega
  rcases hd' with rfl | rfl | rfl | rfl | rfl | rfl | rfl | rfl | rfl | rfl<;>rfl
 have e4:IntKind.i64.wrap (d:Int)=(d:Int):=by rw[IntWalk.i64_in _ (by omega)]
 have hd':decide ((d:Int)≤1000)=true:=by simp;omega
 clear hr hb
 go_enter Try.func81,Try.ntmps81
 go_wp2
 go_loop [4,5] (fun n i=>(n=.int .i64 0∧i=.int .i64 0)∨(n=.int .i64 d∧i=.int .i64 1)) (fun _ i=>1-(intOf i).toNat)
 case atStart=>exact .inl ⟨rfl,rfl⟩
 case round=>
  rcases hrel with ⟨rfl,rfl⟩ | ⟨rfl,rfl⟩
  ·go_wp2
   exact⟨.inr ⟨rfl,rfl⟩,by simp[intOf]⟩
  ·go_wp2
   go_ret2
   exact⟨rfl,rfl⟩
end
section
open Go.RowKit Go.Shelf
def txt:ByteArray:=⟨#[49,32,48,32,49,50,51,48,32,48,32,51,48,49,50,32,48,32,49,50,51,48,32,48,32,51,48,49,50]⟩
def wrd (F:Nat):ByteArray:=if F % 2=0 then⟨#[49,50,51,48]⟩ else ⟨#[51,48,49,50]⟩
def pmS (F i:Nat):Nat:=if F % 2=0 then (i+1) % 4 else (i+3) % 4
def b0:ByteArray:=⟨#[48]⟩
def b1:ByteArray:=⟨#[49]⟩
theorem words_txt:wordsP txt=[b1,b0,wrd 0,b0,wrd 1,b0,wrd 2,b0,wrd 3]:=by kernel_rfl
theorem wrd_size (F:Nat):(wrd F).size=4:=by unfold wrd;split<;>rfl
theorem wrd_byte (F:Nat)(i:Nat)(hi:i<4):byteAt (wrd F) i=48+(pmS F i:Nat):=by
 have hi':i=0∨i=1∨i=2∨i=3:=by omega
 unfold wrd pmS
 by_cases h:F % 2=0
 ·simp only[h,if_true]
  rcases hi' with rfl | rfl | rfl | rfl<;>rfl
 ·simp only[h,if_false]
  rcases hi' with rfl | rfl | rfl | rfl<;>rfl
theorem b0_byte:byteAt b0 0=48+((0:Nat):Int):=by rfl
theorem b1_byte:byteAt b1 0=48+((1:Nat):Int):=by rfl
theorem txt_one:(strs (wordsP txt))[0]?=some (.string b1):=by rw[words_txt];rfl
theorem txt_tet (F:Nat)(hF:F<4):(strs (wordsP txt))[1+2*F]?=some (.string b0):=by
 have:F=0∨F=1∨F=2∨F=3:=by omega
 rw[words_txt];rcases this with rfl | rfl | rfl | rfl<;>rfl
theorem txt_pm (F:Nat)(hF:F<4):(strs (wordsP txt))[1+2*F+1]?=some (.string (wrd F)):=by
 have:F=0∨F=1∨F=2∨F=3:=by omega
 rw[words_txt];rcases this with rfl | rfl | rfl | rfl<;>rfl
def GP (c:Nat):Gl where
 n:=1
 tet:=fun _=>0
 pm:=fun k i=>if 4*k+i<c then (pmS k i:Nat) else 0
theorem GP_zero:rowA (GP 0) 0=#[.int .i64 0,.int .i64 0,.int .i64 0,.int .i64 0,.int .i64 0,.int .i64 0,.int .i64 0,.int .i64 0,.int .i64 0,.int .i64 0,.int .i64 0,.int .i64 0,.int .i64 0,.int .i64 0,.int .i64 0,.int .i64 0,.int .i64 0,.int .i64 0,.int .i64 0,.int .i64 0]:=by simp[rowA,GP]
theorem rowA_get (G:Gl)(t j:Nat)(hj:j<20):(rowA G t)[j]?=some (.int .i64 (if j % 5=0 then G.tet (4*t+j / 5) else G.pm (4*t+j / 5) (j % 5-1))):=by
 have hj':j=0∨j=1∨j=2∨j=3∨j=4∨j=5∨j=6∨j=7∨j=8∨j=9∨j=10∨j=11∨j=12∨j=13∨j=14∨j=15∨j=16∨j=17∨j=18∨j=19:=by omega
 rcases hj' with rfl | rfl | rfl | rfl | rfl | rfl | rfl | rfl | rfl | rfl | rfl | rfl | rfl | rfl | rfl | rfl | rfl | rfl | rfl | rfl<;>rfl
theorem GP_pm {W:World}{b F i:Nat}(_hF:F<4)(hi:i<4)(h:zb9 W b 0 (GP (4*F+i)) 0):zb9 (W.setCell ⟨b,F*5+1+i,none⟩ (.int .i64 (pmS F i:Nat))) b 0 (GP (4*F+i+1)) 0:=by
 intro j hj
 rw[rowA_get _ _ _ hj,Nat.zero_add]
 have h1:=h j hj
 rw[rowA_get _ _ _ hj,Nat.zero_add] at h1
 by_cases e:j=F*5+1+i
 ·have e1:j / 5=F:=by omega
  have e2:j % 5=i+1:=by omega
  rw[←e,World.cell?_setCell_same _ _ _ h1]
  simp[GP,e1,e2]
 ·refine (World.cell?_setCell_other (a:=⟨b,F*5+1+i,none⟩) (b:=⟨b,j,none⟩) _ _ (by simp<;>omega)).trans (h1.trans ?_)
  simp only[GP]
  by_cases e0:j % 5=0
  ·simp[e0]
  ·have e2:(4*(4*0+j / 5)+(j % 5-1)<4*F+i)↔(4*(4*0+j / 5)+(j % 5-1)<4*F+i+1):=by omega
   simp only[e0,if_false,e2]
theorem GP_tet {W:World}{b F c:Nat}(_hF:F<4)(h:zb9 W b 0 (GP c) 0):zb9 (W.setCell ⟨b,F*5,none⟩ (.int .i64 0)) b 0 (GP c) 0:=by
 intro j hj
 rw[Nat.zero_add]
 have h1:=h j hj
 rw[Nat.zero_add] at h1
 by_cases e:j=F*5
 ·rw[rowA_get _ _ _ hj] at h1 ⊢
  rw[←e,World.cell?_setCell_same _ _ _ h1]
  have:j % 5=0:=by omega
  simp[GP,this]
 ·exact (World.cell?_setCell_other (a:=⟨b,F*5,none⟩) (b:=⟨b,j,none⟩) _ _ (by simp<;>omega)).trans h1
def GS:Gl:=GP 16
theorem GS_ok:za9 GS=true:=by decide +kernel
end
end Go.Proofs.Ytlckpgahijlmoaa
