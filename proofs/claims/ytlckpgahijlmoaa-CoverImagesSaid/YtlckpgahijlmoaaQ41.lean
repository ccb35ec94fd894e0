/- The searches for a map of the tetrahedra that commutes with gluings: deck and shifts. -/
import Derived.Test.YtlckpgahijlmoaaQ22
import Derived.Test.YtlckpgahijlmoaaQ40
import Derived.Test.YtlckpgahijlmoaaQ32
import Derived.Test.YtlckpgahijlmoaaQ36
import Derived.Test.YtlckpgahijlmoaaQ35
set_option maxRecDepth 100000
set_option maxHeartbeats 8000000
namespace Go.Proofs.Ytlckpgahijlmoaa
section
open Go.RowKit Go.Shelf
abbrev RKg (G:Gl):={ x:RB // Rok G.n x.1 }
def encB {G:Gl}(x:RKg G):Array Value:=#[.agg (zb6 x.1.1),.bool x.1.2]
structure zg8 (R H n₀:Nat)(A B:World):Prop where
 below:Below n₀ A B
 same:∀i c t f,A.heap[i]?=some (.cells c t f)→zc3 R A i→i≠H→B.heap[i]?=A.heap[i]?
 own:∀i,i<A.heap.size→zc3 R A i→zc3 R B i
 fr:FrR R A→FrR R B
theorem zg8.trans {R H n₀:Nat}{A B C:World}(h:zg8 R H n₀ A B)(k:zg8 R H n₀ B C):zg8 R H n₀ A C:=
 ⟨h.below.trans k.below,fun i c t f hi hn hH=>(k.same i c t f ((h.same i c t f hi hn hH).trans hi) (h.own i (Array.getElem?_eq_some_iff.1 hi).1 hn) hH).trans (h.same i c t f hi hn hH),
  fun i hi hn=>k.own i (Nat.lt_of_lt_of_le hi h.below.size) (h.own i hi hn),fun f=>k.fr (h.fr f)⟩
theorem zg8.cell {R H n₀:Nat}{A B:World}(h:zg8 R H n₀ A B){i o:Nat}{v:Value}(hc:A.cell? ⟨i,o,none⟩=some v)(hn:zc3 R A i)(hH:i≠H):B.cell? ⟨i,o,none⟩=some v:=by
 obtain⟨c,t,f,e⟩:=zc7 hc
 exact (World.cell?_of_block (w:=A) (a:=⟨i,o,none⟩) (h.same i c t f e hn hH)).trans hc
theorem C5.spare2 {R H n₀:Nat}{A B:World}{b:Nat}{u:RS}(h:C5 A b u)(hs:zg8 R H n₀ A B)(hn:zc3 R A b)(hH:b≠H):C5 B b u:=
 ⟨hs.cell h.1 hn hH,hs.cell h.2.1 hn hH,hs.cell h.2.2.1 hn hH,hs.cell h.2.2.2.1 hn hH,hs.cell h.2.2.2.2 hn hH⟩
theorem gring_iter {G:Gl}(hok:za9 G=true)(hr:∀i,i<nE G→revK G (6*G.n) i=false){s:RS}(hs:Rok G.n s)(n:Nat)(hn:1≤n)(v:Value)(w:World)(N Bf Bg R H:Nat)(hN:N≤w.heap.size)(hG:GlAt N w v G)
  (hf:C5 w Bf s) (hg:w.cell? ⟨Bg,0,none⟩=some v) (hnf:zc3 R w Bf) (hng:zc3 R w Bg) (hHf:Bf≠H) (hHg:Bg≠H) (hH:H<w.heap.size) (hR:R<w.heap.size) (hfr:FrR R w)
  (m:Nat) (hm:WalkN G s m) :
  SeqLim n Try.prog 110 #[.pointer (some ⟨Bf,0,none⟩),.pointer (some ⟨Bg,0,none⟩)] encB (fun W i=>zc3 R W i∧i≠H) (fun _=>False) (zg8 R H N) (fun _=>True)
   (fun xs:List (RKg G)=>xs.map (·.1)=pthB G s m) (fun _=>True) m w:=by
 intro l J Jx W hW hJ hJx hlim hY h0
 refine callsIn_wide.2 ?_
 show Calls Try.prog 110 #[.func (.yield l) #[] #[],.pointer (some ⟨Bf,0,none⟩),.pointer (some ⟨Bg,0,none⟩)] W _
 have hgW:=za6 hW (Nat.le_refl _) none
 have hfW:=hf.kept hgW (by simp)
 have hgc:=hgW.cell hg (by simp)
 have hnfW:=hnf.kept hgW hR (by simp)
 have hngW:=hng.kept hgW hR (by simp)
 have hfrW:=hfr.kept hgW hR (by simp)
 have hRW:R<W.heap.size:=Nat.lt_of_lt_of_le hR hW.size
 have hGW:=hG.below (hW.mono hN)
 have hNW:N≤W.heap.size:=Nat.le_trans hN hW.size
 have hHW:H<W.heap.size:=Nat.lt_of_lt_of_le hH hW.size
 have HW:=Hd6 hgc hfW hnfW hngW hfrW hGW
 have HS:=Hd4 hok hr hs hm
 have HJ:=Hd4 hJ hJx hY h0
 obtain⟨c0,c1,c2,c3,c4⟩:=hfW
 clear hok hr hs hm hJ hJx hlim hY h0 hgc hnfW hngW hfrW hGW hgW hf hg hnf hng hfr hG hW
 go_enter Try.func110,Try.ntmps110
 go_wp2
 clear c0 c1 c2 c3 c4
 refine zb3 fun W1 hW1=>?_
 have h1:C5 W1 W.heap.size s∧W.grownBy W1 none∧W.heap.size<W1.heap.size∧∀o,W1.frozen? ⟨W.heap.size,o,none⟩=false:=by
  rw[hW1];exact⟨C5.new W s 136,World.grownBy_alloc W _ none,by simp,fun o=>by simp[go_sem]⟩
 obtain⟨h1c,h1g,h1s,h1f⟩:=h1
 have HFZ:=Lib.hid h1f;clear h1f
 clear hW1
 have H1:=Hd2 h1c h1g;clear h1c h1g
 go_loopg [4] (m+1) (fun g p wr=>∃(k:Nat) (u:RS) (b:Nat) (pl:List (RKg G)),g+k=m+1∧k<m∧pl.map (·.1)=pthB G s k∧p=.pointer (some ⟨b,0,none⟩)∧W.heap.size≤b∧itr G 2 s k=some u∧C5 wr b u∧J pl wr∧Below N W wr∧zc3 R wr b∧zc3 R wr Bg∧zc3 R wr Bf∧FrR R wr∧wr.cell? ⟨Bg,0,none⟩=some v∧C5 wr Bf s∧(∀o,wr.frozen? ⟨b,o,none⟩=false))
 case atStart=>
  refine⟨0,s,W.heap.size,[],by omega,HS.out.2.2.2.1,rfl,rfl,Nat.le_refl _,rfl,H1.out.1,?_,(Below.refl N W).grown H1.out.2 hNW (fun k hk=>by cases hk),?_,HW.out.2.2.2.1.kept H1.out.2 hRW (by simp),HW.out.2.2.1.kept H1.out.2 hRW (by simp),HW.out.2.2.2.2.1.kept H1.out.2 hRW (by simp),H1.out.2.cell HW.out.1 (by simp),HW.out.2.1.kept H1.out.2 (by simp),HFZ.out⟩
  ·exact HJ.out.1 _ _ _ _ HJ.out.2.2.2 H1.out.2 (fun r e=>by cases e)
  ·exact (zc3.new hRW HW.out.2.2.2.2.1).kept H1.out.2 hRW (by simp)
 case round=>
  clear H1 h1s HFZ
  obtain⟨k,u,b,pl,hgk,hkm,hpl,rfl,hbW,hu,hc,hJk,hB,nb,ng,nf,hfr,gc,fc,hfz⟩:=hrel
  have hoku:=zf7 HS.out.1 HS.out.2.2.1 hu
  have hBs:=hB.size
  have hGr:GlAt wr.heap.size wr v G:=(HW.out.2.2.2.2.2.below hB).mono (by omega)
  have HK:=Hd12 hu hc hJk hB nb ng nf hfr gc fc hfz hoku
  have HGR:=Lib.hid hGr;clear hGr
  obtain⟨c0,c1,c2,c3,c4⟩:=hc
  clear hu hJk hB nb ng nf hfr fc hfz hoku
  refine (wpIn_wide (n:=n)).1 ?_
  gi_wp2_with fail
  refine⟨trivial,?_⟩
  gi_at_call 111
  refine (callsIn_wide.2 (gnext_walk HS.out.1 HK.out.2.2.2.2.2.2.2.2.2.2.2 v wr HGR.out)).mono ?_
  rintro e V ⟨rfl,hbV⟩
  have hgV:=za6 hbV (Nat.le_refl _) none
  obtain⟨d0,d1,d2,d3,d4,ok,hnx,hno,hso⟩:=nxA_form (stp G 2 u)
  rw[hnx]
  obtain⟨V1,hV1⟩:∃V1,V1=V.alloc (.cells #[.int .i64 d0,.int .i64 d1,.int .i64 d2,.int .i64 d3,.int .i64 d4] 136):=⟨_,rfl⟩
  have hg1:wr.grownBy V1 none:=by rw[hV1];exact za2 hgV (World.grownBy_alloc V _ none)
  have hRr:R<wr.heap.size:=Nat.lt_of_lt_of_le hRW hBs
  have hJ1:J pl V1:=HJ.out.1 _ _ _ _ HK.out.2.2.1 hg1 (fun r e=>by cases e)
  have hlen:pl.length=k:=by
   have h1:=congrArg List.length hpl
   rw[List.length_map] at h1
   rw[h1,pthB,List.length_map,pth_len (fun i hi=>HS.out.2.2.2.2.1 i (by omega))]
  obtain⟨fn,tmps,assign,body,hy,hRd⟩:=HJ.out.2.2.1 pl ⟨(u,ok),HK.out.2.2.2.2.2.2.2.2.2.2.2⟩ V1 hJ1 (by omega)
  have HV:=Hd3 hg1 hno hso
  have x0:=hg1.cell c0 (by simp)
  have x1:=hg1.cell c1 (by simp)
  have x2:=hg1.cell c2 (by simp)
  have x3:=hg1.cell c3 (by simp)
  have x4:=hg1.cell c4 (by simp)
  unfold encB at hy
  unfold zb6 at hy
  have HV1:=Lib.hid hV1
  obtain⟨a,ha⟩:∃a,a=V.heap.size:=⟨_,rfl⟩
  have haw:wr.heap.size≤a:=by rw[ha];exact hgV.size
  have hfr1:FrR R V1:=HK.out.2.2.2.2.2.2.2.1.kept hg1 hRr (by simp)
  have na1:zc3 R V1 a:=by
   rw[hV1,ha]
   have hf:FrR R V:=HK.out.2.2.2.2.2.2.2.1.kept hgV hRr (by simp)
   have hRV:R<V.heap.size:=Nat.lt_of_lt_of_le hRr hgV.size
   exact (zc3.new hRV hf).kept (World.grownBy_alloc V _ none) hRV (by simp)
  have hA:V1.cell? ⟨a,0,none⟩=some (.int .i64 d0)∧V1.cell? ⟨a,1,none⟩=some (.int .i64 d1)∧V1.cell? ⟨a,2,none⟩=some (.int .i64 d2)∧V1.cell? ⟨a,3,none⟩=some (.int .i64 d3)∧V1.cell? ⟨a,4,none⟩=some (.int .i64 d4):=by
   rw[hV1,ha]
   exact⟨by simp[go_sem],by simp[go_sem],by simp[go_sem],by simp[go_sem],by simp[go_sem]⟩
  have HA:=Hd4 hA na1 hfr1 haw
  rw[hV1] at x0 x1 x2 x3 x4 hy
  have Ha:=Lib.hid ha
  clear hgV hbV hno hso hnx c0 c1 c2 c3 c4 gc hg1 hV1 hA na1 hfr1 haw ha
  gi_wp2_with fail
  rw[HV1.out] at hRd
  refine hRd.mono ?_
  rintro e W3 (⟨rfl,hJ3,hs3⟩ | ⟨rfl,hJx3⟩)
  ·clear hRd hy x0 x1 x2 x3 x4
   rw[←HV1.out] at hs3
   rw[←Ha.out]
   obtain⟨hu,hc,hJk,hB,nb,ng,nf,hfr,gc,fc,hfz,hoku⟩:=HK.out
   have hg1:=HV.out.1
   have hbl:=hc.lt
   have hc3:C5 W3 b u:=(hc.kept hg1 (by simp)).spare2 hs3 (nb.kept hg1 hRr (by simp)) (by omega)
   have hf3:C5 W3 Bf s:=(fc.kept hg1 (by simp)).spare2 hs3 (nf.kept hg1 hRr (by simp)) hHf
   have gc3:=hs3.cell (hg1.cell gc (by simp)) (ng.kept hg1 hRr (by simp)) hHg
   have nb3:=hs3.own b (Nat.lt_of_lt_of_le hbl hg1.size) (nb.kept hg1 hRr (by simp))
   have nf3:=hs3.own Bf (Nat.lt_of_lt_of_le fc.lt hg1.size) (nf.kept hg1 hRr (by simp))
   have ng3:=hs3.own Bg (Nat.lt_of_lt_of_le (za0 gc) hg1.size) (ng.kept hg1 hRr (by simp))
   have fr3:=hs3.fr HA.out.2.2.1
   have hB3:Below N W W3:=(hB.grown hg1 (by omega) (fun r e=>by cases e)).trans hs3.below
   have hRW3:R<W3.heap.size:=Nat.lt_of_lt_of_le hRW hB3.size
   have fz3:∀o,W3.frozen? ⟨b,o,none⟩=false:=fun o=>by
    obtain⟨c,t,f,e⟩:=zc7 (hc.kept hg1 (by simp)).1
    exact (World.frozen?_of_block (w:=V1) (a:=⟨b,o,none⟩) (hs3.same b c t f e (nb.kept hg1 hRr (by simp)) (by omega))).trans ((hg1.frozen_far ⟨b,o,none⟩ hbl (by simp)).trans (hfz o))
   obtain⟨⟨a0,a1,a2,a3,a4⟩,na,-,haw⟩:=HA.out
   have hal:a≠H:=by omega
   have z0:=hs3.cell a0 na hal
   have z1:=hs3.cell a1 na hal
   have z2:=hs3.cell a2 na hal
   have z3:=hs3.cell a3 na hal
   have z4:=hs3.cell a4 na hal
   have hst:stp G 2 u=itr G 2 s (k+1):=by simp only[itr,hu,Option.bind_some]
   have hno:=HV.out.2.1
   have hso:=HV.out.2.2
   have hW:=HS.out.2.2.2
   clear a0 a1 a2 a3 a4 na hal
   have hab:a≠b:=by omega
   cases hq:stp G 2 u with
   | none=>
    obtain rfl:=hno hq
    have hmk:m=k+1:=by
     rcases Nat.lt_or_ge (k+1) m with h | h
     ·exact absurd (hst.symm.trans hq) (hW.2.1 _ h)
     ·omega
    have HF:=Hd3 hJ3 hmk hpl
    clear hJ3 hmk hpl hc3 hf3 z0 z1 z2 z3 z4 hs3 hu hc hJk hB nb ng nf hfr gc fc hfz hg1 nb3 nf3 ng3 fr3 hB3 fz3 hno hso hW hst
    gi_wp2
    refine⟨trivial,?_⟩
    gi_wp2
    refine bodyPost_ret (results_none rfl _ _ _) rfl ?_
    obtain⟨hJ3,rfl,hpl⟩:=HF.out
    refine⟨⟨_,rfl⟩,.inl ⟨_,?_,hJ3⟩⟩
    rw[List.map_append,hpl,pthB_succ HK.out.1]
    unfold nxB;rw[hq];rfl
   | some u'=>
    obtain⟨rfl,rfl,rfl,rfl,rfl,rfl⟩:=hso u' hq
    have hu':itr G 2 s (k+1)=some u':=hst.symm.trans hq
    have hok':=zf7 HS.out.1 HS.out.2.2.1 hu'
    have hsame:=smB_self HS.out.1 HS.out.2.1 HS.out.2.2.1 hu'
    have hSm:=fun w=>gsame_walk (u'.1:Int) u'.2.1 u'.2.2.1 u'.2.2.2.1 u'.2.2.2.2 (s.1:Int) s.2.1 s.2.2.1 s.2.2.2.1 s.2.2.2.2 w
    obtain⟨sb,hsb⟩:∃sb,sb=smB (u'.1:Int) u'.2.1 u'.2.2.1 u'.2.2.2.1 (s.1:Int) s.2.1 s.2.2.1 s.2.2.2.1:=⟨_,rfl⟩
    rw[←hsb] at hSm hsame
    have HSB:=Hd2 hsame hsb
    have hpl2:(pl++[(⟨(u,true),hoku⟩:RKg G)]).map (·.1)=pthB G s (k+1):=by
     rw[List.map_append,hpl,pthB_succ hu]
     unfold nxB;rw[hq];rfl
    have HF:=Hd11 hJ3 hpl2 hu' hok' hB3 nb3 ng3 nf3 fr3 gc3 fz3
    have HC3:=Hd2 hc3 hf3
    have f0:=hf3.1
    have f1:=hf3.2.1
    have f2:=hf3.2.2.1
    have f3:=hf3.2.2.2.1
    have f4:=hf3.2.2.2.2
    clear hJ3 hpl2 hu' hok' hB3 nb3 ng3 nf3 fr3 gc3 hsame hsb hs3 hu hc hJk hB nb ng nf hfr gc fc hfz hg1 fz3 hno hso hW hst hc3 hf3
    gi_wp2_with fail
    refine⟨trivial,?_⟩
    refine (callsIn_wide.2 (hSm W3)).mono ?_
    rintro e W4 ⟨rfl,hb4⟩
    have hg4:=za6 hb4 (Nat.le_refl _) none
    obtain⟨hc3,hf3⟩:=HC3.out
    have y0:=hg4.cell hc3.1 (by simp)
    have y1:=hg4.cell hc3.2.1 (by simp)
    have y2:=hg4.cell hc3.2.2.1 (by simp)
    have y3:=hg4.cell hc3.2.2.2.1 (by simp)
    have y4:=hg4.cell hc3.2.2.2.2 (by simp)
    have w0:=hg4.cell z0 (by simp)
    have w1:=hg4.cell z1 (by simp)
    have w2:=hg4.cell z2 (by simp)
    have w3:=hg4.cell z3 (by simp)
    have w4:=hg4.cell z4 (by simp)
    have hb3:=hc3.lt
    have fz4:∀o,W4.frozen? ⟨b,o,none⟩=false:=fun o=>(hg4.frozen_far ⟨b,o,none⟩ hb3 (by simp)).trans (HF.out.2.2.2.2.2.2.2.2.2.2 o)
    have H4:=Hd2 hg4 (hf3.kept hg4 (by simp))
    clear hg4 hb4 z0 z1 z2 z3 z4 f0 f1 f2 f3 f4 hc3 hf3
    obtain⟨hJ3,hpl2,hu',hok',hB3,nb3,ng3,nf3,fr3,gc3,fz3⟩:=HF.out
    have hs3:=hB3.size
    have hRW3:R<W3.heap.size:=Nat.lt_of_lt_of_le hRW hs3
    have hJ4:J (pl++[(⟨(u,true),HK.out.2.2.2.2.2.2.2.2.2.2.2⟩:RKg G)]) W4:=HJ.out.1 _ _ _ _ hJ3 H4.out.1 (fun r e=>by cases e)
    have HJ4:=Lib.hid hJ4
    have hWk:=HS.out.2.2.2
    cases sb with
    | true=>
     have hus:u'=s:=HSB.out.1.1 rfl
     have hmk:m=k+1:=by
      rcases Nat.lt_or_ge (k+1) m with h | h
      ·exact absurd (hus▸hu') (hWk.2.2.1 _ (by omega) h)
      ·omega
     have HM:=Hd2 hmk hpl2
     clear hJ3 hJ4 hpl2 hu' hok' hB3 nb3 ng3 nf3 fr3 gc3 fz3 hus hmk y0 y1 y2 y3 y4 w0 w1 w2 w3 w4 fz4 hWk
     gi_wp2
     refine bodyPost_ret (results_none rfl _ _ _) rfl ?_
     obtain⟨rfl,hpl2⟩:=HM.out
     exact⟨⟨_,rfl⟩,.inl ⟨_,hpl2,HJ4.out⟩⟩
    | false=>
     have hmk:k+1<m:=by
      rcases Nat.lt_or_ge (k+1) m with h | h
      ·exact h
      ·have he:m=k+1:=by omega
       rcases hWk.2.2.2 with q | q
       ·rw[he,hu'] at q;cases q
       ·rw[he,hu'] at q
        have:=HSB.out.1.2 (Option.some.inj q)
        cases this
     have HM:=Lib.hid hmk
     clear hJ3 hJ4 hpl2 hu' hok' hB3 nb3 ng3 nf3 fr3 gc3 fz3 hmk hWk
     gi_wp2
     go_roundg (gk-1)
     case measure=>omega
     case rel=>
      obtain⟨hJ3,hpl2,hu',hok',hB3,nb3,ng3,nf3,fr3,gc3,fz3⟩:=HF.out
      have g5:=five_grown (zd2 W4 (some b)) (.int .i64 (u'.1:Int)) (.int .i64 (u'.2.1:Int)) (.int .i64 (u'.2.2.1:Int)) (.int .i64 (u'.2.2.2.1:Int)) (.int .i64 (u'.2.2.2.2:Int))
      obtain⟨W5,hW5⟩:∃W5,W5=((((W4.setCell ⟨b,0,none⟩ (.int .i64 (u'.1:Int))).setCell ⟨b,1,none⟩ (.int .i64 (u'.2.1:Int))).setCell ⟨b,2,none⟩ (.int .i64 (u'.2.2.1:Int))).setCell ⟨b,3,none⟩ (.int .i64 (u'.2.2.2.1:Int))).setCell ⟨b,4,none⟩ (.int .i64 (u'.2.2.2.2:Int)):=⟨_,rfl⟩
      have hz5:W5.heap.size=W4.heap.size:=by rw[hW5];simp
      rw[←hW5] at g5 ⊢
      rw[←hz5]
      have g8:=World.grownBy_alloc W5 (.cells (zb6 u') 136) none
      have h43:=H4.out.1.size
      have hRW5:R<W5.heap.size:=by omega
      have nbR:(some b:Option Nat)≠some R:=fun e=>nb3.1 (by simpa using e)
      have g35:W3.grownBy W5 (some b):=za2 (grown_row H4.out.1 _) g5
      have g38:=za2 g35 (grown_row g8 (some b))
      have hBgb:Bg≠b:=by have:=za0 HW.out.1;simp only at this;omega
      have hBfb:Bf≠b:=by have:=HW.out.2.1.lt;omega
      have fr5:FrR R W5:=fr3.kept g35 hRW3 nbR
      exact⟨k+1,u',W5.heap.size,_,by omega,HM.out,hpl2,rfl,by omega,hu',C5.new W5 u' 136,HJ.out.1 _ _ _ _ hJ3 g38 (fun r e=>by cases e;exact⟨.inl hbW,nb3,by omega⟩),hB3.grown g38 (by omega) (fun r e=>by cases e;omega),(zc3.new hRW5 fr5).kept g8 hRW5 (by simp),ng3.kept g38 hRW3 nbR,nf3.kept g38 hRW3 nbR,fr3.kept g38 hRW3 nbR,
       g38.cell gc3 (by simpa using hBgb),((H4.out.2.kept g5 (by simpa using hBfb)).kept g8 (by simp)),fun o=>by simp[go_sem]⟩
  ·have H3:=Lib.hid hJx3;clear hJx3 hy hRd x0 x1 x2 x3 x4
   gi_wp2
   refine⟨trivial,?_⟩
   gi_wp2
   exact bodyPost_ret (results_none rfl _ _ _) rfl ⟨⟨_,rfl⟩,.inr ⟨_,trivial,H3.out⟩⟩
end
section
open Go.RowKit Go.Shelf
def mx1 (f:Nat→Int):Nat→Int
 | 0=>f 0
 | k+1=>max (mx1 f k) (f (k+1))
theorem smax_walk (d n:Nat)(f:Nat→Int)(hn:0<n)(hb:n<4611686018427387904)(w:World)(hr:zb7 w d n f) :
  Calls Try.prog 74 #[.slice (some ⟨d,0,none⟩) n n] w fun e w'=>e=.returned (.int .i64 (mx1 f (n-1)))∧w'=w:=by
 have HR:=Lib.hid hr
 have c0:=hr.cell hn
 obtain⟨x0,hx0⟩:∃x,x=f 0:=⟨_,rfl⟩
 rw[←hx0] at c0
 have HX:=Lib.hid hx0
 have q0:decide ((n:Int)<1)=false:=by rw[decide_eq_false_iff_not];omega
 have n0:(0:Int)<(n:Int):=by omega
 clear hr hx0
 go_enter Try.func74,Try.ntmps74
 go_wp2
 go_loopw [3,4] (fun m i wz=>∃k:Nat,1≤k∧k≤n∧i=.int .i64 k∧m=.int .i64 (mx1 f (k-1))∧wz=w) (fun _ i _=>n-(intOf i).toNat)
 case atStart=>exact⟨1,by omega,by omega,rfl,by rw[HX.out];rfl,rfl⟩
 case round=>
  obtain⟨k,hk1,hk,rfl,rfl,hwz⟩:=hrel
  obtain rfl:=hwz.symm
  rcases Nat.lt_or_ge k n with hkn | hkn
  ·have ck:=HR.out.cell hkn
   obtain⟨y,hy⟩:∃y,y=f k:=⟨_,rfl⟩
   obtain⟨m,hm⟩:∃m,m=mx1 f (k-1):=⟨_,rfl⟩
   rw[←hy] at ck
   rw[←hm]
   have HY:=Hd2 hy hm
   have k0:0≤(k:Int):=by omega
   have kn:(k:Int)<(n:Int):=by omega
   clear hy hm
   go_wp2
   exact⟨⟨k+1,by omega,by omega,by simp,by
    obtain⟨j,rfl⟩:∃j,k=j+1:=⟨k-1,by omega⟩
    simp only[Nat.add_sub_cancel,mx1] at *
    rw[HY.out.1,HY.out.2],trivial⟩,by simp[intOf];omega⟩
  ·obtain rfl:k=n:=by omega
   go_wp2
   go_ret
   exact⟨rfl,rfl⟩
def wordB (gens:Nat)(l:Nat)(f:Nat→Int):Bool:=((List.range l).all fun i=>f i !=0 && decide (f i≤gens) && decide (-(gens:Int)≤f i)) && decide (l≤2000)
theorem wordB_bad {gens l k:Nat}{f:Nat→Int}(hk:k<l)(h:¬(f k≠0∧f k≤gens∧-(gens:Int)≤f k)):wordB gens l f=false:=by
 cases hb:wordB gens l f with
 | false=>rfl
 | true=>
  simp only[wordB,Bool.and_eq_true,List.all_eq_true,List.mem_range,decide_eq_true_eq,bne_iff_ne] at hb
  have:=hb.1 k hk
  exact absurd ⟨this.1.1,this.1.2,this.2⟩ h
theorem wordB_good {gens l:Nat}{f:Nat→Int}(h:∀k,k<l→f k≠0∧f k≤gens∧-(gens:Int)≤f k):wordB gens l f=decide (l≤2000):=by
 have:((List.range l).all fun i=>f i !=0 && decide (f i≤gens) && decide (-(gens:Int)≤f i))=true:=by
  simp only[Bool.and_eq_true,List.all_eq_true,List.mem_range,decide_eq_true_eq,bne_iff_ne]
  exact fun k hk=>⟨⟨(h k hk).1,(h k hk).2.1⟩,(h k hk).2.2⟩
 unfold wordB;rw[this,Bool.true_and]
theorem isWord_walk (gens l:Nat)(f:Nat→Int)(hg:gens<4611686018427387904)(hl:l<4611686018427387904)(ra:Option Addr)(rc B:Nat)(w:World)(hr:SI B w (.slice ra l rc) l f) :
  Calls Try.prog 114 #[.int .i64 (gens:Int),.slice ra l rc] w fun e w'=>e=.returned (.bool (wordB gens l f))∧w'=w:=by
 have HR:=Lib.hid hr
 have qg:IntKind.i64.wrap (-(gens:Int))=-(gens:Int):=IntWalk.i64_in _ (by omega)
 clear hr
 go_enter Try.func114,Try.ntmps114
 go_wp2
 go_loopw [9] (fun i wz=>∃k:Nat,k≤l∧i=.int .i64 k∧(∀m,m<k→f m≠0∧f m≤gens∧-(gens:Int)≤f m)∧wz=w) (fun i _=>l-(intOf i).toNat)
 case atStart=>exact⟨0,by omega,rfl,fun m hm=>by omega,rfl⟩
 case round=>
  obtain⟨k,hk,rfl,hn,hwz⟩:=hrel
  obtain rfl:=hwz.symm
  have HN:=Lib.hid hn
  clear hn
  rcases Nat.lt_or_ge k l with hkl | hkl
  ·obtain⟨a',rb,ro,rc',e,r3,r4⟩:=HR.out
   obtain⟨rfl,-,rfl⟩:ra=a'∧l=l∧rc=rc':=by simpa using e
   obtain⟨rfl,-⟩:=r3 (by omega)
   have ck:=r4 k hkl
   obtain⟨y,hy⟩:∃y,y=f k:=⟨_,rfl⟩
   rw[←hy] at ck
   have HY:=Lib.hid hy
   have k0:0≤(k:Int):=by omega
   have kl:(k:Int)<(l:Int):=by omega
   clear hy e r3 r4
   by_cases e:y≠0∧y≤gens∧-(gens:Int)≤y
   ·have HE:=Lib.hid e
    have b1:(y==0)=false:=by simpa using e.1
    have b2:decide ((gens:Int)<y)=false:=by rw[decide_eq_false_iff_not];omega
    have b3:decide (y < -(gens:Int))=false:=by rw[decide_eq_false_iff_not];omega
    clear e
    go_wp2
    exact⟨⟨k+1,by omega,by simp,fun m hm=>by
     rcases Nat.lt_or_ge m k with h | h
     ·exact HN.out m h
     ·rw[show m=k by omega,←HY.out];exact HE.out,trivial⟩,by simp[intOf];omega⟩
   ·have HE:=Lib.hid (wordB_bad (gens:=gens) (f:=f) hkl (by rw[←HY.out];exact e))
    by_cases e1:y=0
    ·have b1:(y==0)=true:=by simpa using e1
     clear e e1
     go_wp2
     go_ret
     exact⟨by rw[HE.out];rfl,rfl⟩
    ·have b1:(y==0)=false:=by simpa using e1
     by_cases e2:(gens:Int)<y
     ·have b2:decide ((gens:Int)<y)=true:=by simpa using e2
      clear e e1 e2
      go_wp2
      go_ret
      exact⟨by rw[HE.out];rfl,rfl⟩
     ·have b2:decide ((gens:Int)<y)=false:=by simpa using e2
      have b3:decide (y < -(gens:Int))=true:=by rw[decide_eq_true_eq];omega
      clear e e1 e2
      go_wp2
      go_ret
      exact⟨by rw[HE.out];rfl,rfl⟩
  ·obtain rfl:k=l:=by omega
   have HE:=Lib.hid (wordB_good HN.out)
   have b:decide ((k:Int)≤2000)=decide (k≤2000):=by rw[decide_eq_decide];omega
   go_wp2
   go_ret
   exact⟨by rw[HE.out];first | rfl|(rw[←b];rfl),rfl⟩
def sumL (len:Nat→Nat):Nat→Nat
 | 0=>0
 | k+1=>sumL len k+len k
theorem sumL_mono (len:Nat→Nat){i j:Nat}(h:i≤j):sumL len i≤sumL len j:=by
 induction j with
 | zero=>rw[show i=0 by omega];exact Nat.le_refl _
 | succ j ih=>
  rcases Nat.lt_or_ge i (j+1) with c | c
  ·have:=ih (by omega);simp only[sumL];omega
  ·rw[show i=j+1 by omega];exact Nat.le_refl _
def presB (gens nr:Nat)(len:Nat→Nat)(fr:Nat→Nat→Int):Bool:=decide (gens≤2000) && decide (nr≤4000) && decide (sumL len nr≤100000) && (List.range nr).all fun k=>wordB gens (len k) (fr k)
theorem presB_iff {gens nr:Nat}{len:Nat→Nat}{fr:Nat→Nat→Int}:presB gens nr len fr=true↔gens≤2000∧nr≤4000∧sumL len nr≤100000∧∀k,k<nr→wordB gens (len k) (fr k)=true:=by
 simp only[presB,Bool.and_eq_true,decide_eq_true_eq,List.all_eq_true,List.mem_range]
 exact⟨fun ⟨⟨⟨a,b⟩,c⟩,d⟩=>⟨a,b,c,d⟩,fun ⟨a,b,c,d⟩=>⟨⟨⟨a,b⟩,c⟩,d⟩⟩
theorem presB_false {gens nr:Nat}{len:Nat→Nat}{fr:Nat→Nat→Int}(h:¬(gens≤2000∧nr≤4000∧sumL len nr≤100000∧∀k,k<nr→wordB gens (len k) (fr k)=true)):presB gens nr len fr=false:=by
 cases hb:presB gens nr len fr with
 | false=>rfl
 | true=>exact absurd (presB_iff.1 hb) h
section
variable (gens nr:Nat)(len:Nat→Nat)(fr:Nat→Nat→Int)(rv:Value)(w:World)(hrv:LLc w.heap.size w rv nr len fr)(hn:nr<4611686018427387904)(hs:sumL len nr<4611686018427387904)(hg:gens<4611686018427387904)
include hrv hn hs
theorem letters_walk:Calls Try.prog 113 #[.agg #[.int .i64 (gens:Int),rv]] w fun e w'=>e=.returned (.int .i64 (sumL len nr:Int))∧Below w.heap.size w w':=by
 have HR:=Lib.hid hrv
 obtain⟨ra,rc,rfl⟩:∃a cap,rv=.slice a nr cap:=by obtain⟨a,_,_,cap,e,_⟩:=hrv;exact⟨a,cap,e⟩
 clear hrv
 obtain⟨N,hN⟩:∃N,N=w.heap.size:=⟨_,rfl⟩
 have HN:=Lib.hid hN
 go_enter Try.func113,Try.ntmps113
 go_wp2
 rw[←hN]
 refine zb3 fun W1 hW=>?_
 have h1:Below N w W1:=by rw[hW,hN];(repeat' (first | assumption | exact Below.refl _ _ | refine za7 ?_ (by assumption) | refine zb2 ?_ _ | refine za5 ?_ | refine zb1 ?_ (by simp<;>omega) _))
 have H1:=Lib.hid h1
 clear h1 hW hN
 go_loopw [3,9] (fun m i wz=>∃k:Nat,k≤nr∧i=.int .i64 k∧m=.int .i64 (sumL len k:Int)∧wz=W1) (fun _ i _=>nr-(intOf i).toNat)
 case atStart=>exact⟨0,by omega,rfl,rfl,rfl⟩
 case round=>
  obtain⟨k,hk,rfl,rfl,hwz⟩:=hrel
  obtain rfl:=hwz.symm
  rcases Nat.lt_or_ge k nr with hkn | hkn
  ·obtain⟨a',pb,po,cap',e,r1,r2⟩:=HR.out
   obtain⟨rfl,rfl⟩:ra=a'∧rc=cap':=by simpa using e
   obtain⟨rfl,hpB⟩:=r1 (by omega)
   obtain⟨qa,qb,qo,qc,q1,-,-,-⟩:=r2 k hkn
   have c1:=(H1.out.cell (p:=⟨pb,po+k,none⟩) (by rw[HN.out];exact hpB)).trans q1
   have hm:=sumL_mono len (show k+1≤nr by omega)
   simp only[sumL] at hm
   obtain⟨l,hl⟩:∃l,l=len k:=⟨_,rfl⟩
   obtain⟨m,hm2⟩:∃m,m=sumL len k:=⟨_,rfl⟩
   rw[←hl] at c1 hm
   rw[←hm2] at hm
   rw[←hm2]
   have HY:=Hd2 hl hm2
   have k0:0≤(k:Int):=by omega
   have kn:(k:Int)<(nr:Int):=by omega
   have qs:IntKind.i64.wrap ((m:Int)+(l:Int))=(m:Int)+(l:Int):=IntWalk.i64_in _ (by omega)
   clear hl hm2 r1 r2 e q1
   go_wp2
   exact⟨⟨k+1,by omega,by simp,by simp only[sumL];rw[←HY.out.1,←HY.out.2];push_cast;rfl,trivial⟩,by simp[intOf];omega⟩
  ·obtain rfl:k=nr:=by omega
   go_wp2
   go_ret
   exact⟨rfl,by rw[←HN.out];exact H1.out⟩
include hg
theorem gcheck_walk:Calls Try.prog 79 #[.agg #[.int .i64 (gens:Int),rv]] w fun e w'=>e=.returned (.int .i64 (if presB gens nr len fr=true then 0 else 90))∧Below w.heap.size w w':=by
 have HR:=Lib.hid hrv
 obtain⟨ra,rc,rfl⟩:∃a cap,rv=.slice a nr cap:=by obtain⟨a,_,_,cap,e,_⟩:=hrv;exact⟨a,cap,e⟩
 clear hrv
 obtain⟨N,hN⟩:∃N,N=w.heap.size:=⟨_,rfl⟩
 have HN:=Lib.hid hN
 have hbA:Below N w (w.alloc (.cells #[.int .i64 (gens:Int),.slice ra nr rc] 69)):=by rw[hN];(repeat' (first | assumption | exact Below.refl _ _ | refine za7 ?_ (by assumption) | refine zb2 ?_ _ | refine za5 ?_ | refine zb1 ?_ (by simp<;>omega) _))
 have hRA:=(HR.out.below (by rw[←hN];exact hbA)).mono hbA.size
 have h113:=letters_walk gens nr len fr (.slice ra nr rc) _ hRA hn hs
 have H113:=Hd2 h113 hbA
 have k1:(w.alloc (.cells #[.int .i64 (gens:Int),.slice ra nr rc] 69)).cell? ⟨N,1,none⟩=some (.slice ra nr rc):=by rw[hN];simp[go_sem]
 have k0:(w.alloc (.cells #[.int .i64 (gens:Int),.slice ra nr rc] 69)).cell? ⟨N,0,none⟩=some (.int .i64 (gens:Int)):=by rw[hN];simp[go_sem]
 have K:=Hd2 k0 k1
 obtain⟨z,hz⟩:∃z:Int,z=if presB gens nr len fr=true then 0 else 90:=⟨_,rfl⟩
 rw[←hz]
 have bad:¬(gens≤2000∧nr≤4000∧sumL len nr≤100000∧∀k,k<nr→wordB gens (len k) (fr k)=true)→∀W,Below N w W→Ending.returned (.int .i64 90)=.returned (.int .i64 z)∧Below w.heap.size w W:=fun h W hb=>⟨by rw[hz,presB_false h];rfl,by rw[←HN.out];exact hb⟩
 have HB:=Lib.hid bad
 have HZ:=Lib.hid hz
 clear hz
 clear hbA hRA h113 k0 k1 bad hN
 go_enter Try.func79,Try.ntmps79
 go_wp2_with fail
 refine H113.out.1.mono ?_
 rintro e w5 ⟨rfl,hb5⟩
 have e0:=(hb5.cell (p:=⟨N,0,none⟩) (za0 K.out.1)).trans K.out.1
 have e1:=(hb5.cell (p:=⟨N,1,none⟩) (za0 K.out.2)).trans K.out.2
 have H5:=Lib.hid (H113.out.2.trans (hb5.mono (by rw[HN.out];exact H113.out.2.size)))
 rw[←HN.out]
 clear hb5
 go_wp2
 ·go_ret
  exact HB.out (fun h=>by omega) _ H5.out
 ·go_loopw [27] (fun i wz=>∃k:Nat,k≤nr∧i=.int .i64 k∧(∀m,m<k→wordB gens (len m) (fr m)=true)∧wz=w5) (fun i _=>nr-(intOf i).toNat)
  case atStart=>exact⟨0,by omega,rfl,fun m hm=>by omega,rfl⟩
  case round=>
   obtain⟨k,hk,rfl,hall,hwz⟩:=hrel
   obtain rfl:=hwz.symm
   have HA:=Lib.hid hall
   clear hall
   rcases Nat.lt_or_ge k nr with hkn | hkn
   ·obtain⟨a',pb,po,cap',e,r1,r2⟩:=HR.out
    obtain⟨rfl,rfl⟩:ra=a'∧rc=cap':=by simpa using e
    obtain⟨rfl,hpB⟩:=r1 (by omega)
    obtain⟨qa,qb,qo,qc,q1,q2,q3,q4⟩:=r2 k hkn
    have hlk:=sumL_mono len (show k+1≤nr by omega)
    simp only[sumL] at hlk
    have hbw:Below w.heap.size w w5:=by rw[←HN.out];exact H5.out
    have c1:=(hbw.cell (p:=⟨pb,po+k,none⟩) hpB).trans q1
    have hSI:SI w.heap.size w5 (.slice qa (len k) qc) (len k) (fr k):=⟨qa,qb,qo,qc,rfl,q3,fun i hi=>(hbw.cell (p:=⟨qb,qo+i,none⟩) (q3 (by omega)).2).trans (q4 i hi)⟩
    have h114:=isWord_walk gens (len k) (fr k) hg (by omega) qa qc w.heap.size w5 hSI
    obtain⟨b,hb⟩:∃b,b=wordB gens (len k) (fr k):=⟨_,rfl⟩
    rw[←hb] at h114
    have HW:=Lib.hid h114
    have HBB:=Lib.hid hb
    obtain⟨l,hl⟩:∃l,l=len k:=⟨_,rfl⟩
    rw[←hl] at c1 HW
    have k0:0≤(k:Int):=by omega
    have kn:(k:Int)<(nr:Int):=by omega
    clear e r1 r2 q1 q2 q3 q4 hbw hSI h114 hb hl hlk
    cases b with
    | false=>
     go_wp2_with (go_at_call 114;(with_reducible refine HW.out.mono ?_);rintro e w6 ⟨rfl,rfl⟩)
     go_ret
     exact HB.out (fun h=>by have:=h.2.2.2 k hkn;rw[←HBB.out] at this;cases this) _ H5.out
    | true=>
     go_wp2_with (go_at_call 114;(with_reducible refine HW.out.mono ?_);rintro e w6 ⟨rfl,rfl⟩)
     exact⟨⟨k+1,by omega,by simp,fun m hm=>by
      rcases Nat.lt_or_ge m k with h | h
      ·exact HA.out m h
      ·rw[show m=k by omega];exact HBB.out.symm,trivial⟩,by simp[intOf];omega⟩
   ·obtain rfl:k=nr:=by omega
    have HG:=Lib.hid (HZ.out.trans (if_pos (presB_iff.2 ⟨by omega,by omega,by omega,HA.out⟩)))
    go_wp2
    go_ret
    exact⟨by rw[HG.out];rfl,by rw[←HN.out];exact H5.out⟩
 all_goals go_ret
 all_goals exact HB.out (fun h=>by omega) _ H113.out.2
end
end
section
end
end Go.Proofs.Ytlckpgahijlmoaa
