/- Letters one by one. Pure. -/
import Derived.Test.YtlckpgahijlmoaaQ47
import Derived.Test.YtlckpgahijlmoaaQ32
import Derived.Test.YtlckpgahijlmoaaQ49
import Derived.Test.YtlckpgahijlmoaaQ41
import Derived.Test.YtlckpgahijlmoaaQ40
set_option maxRecDepth 100000
set_option maxHeartbeats 8000000
namespace Go.Proofs.Ytlckpgahijlmoaa
section
open Go.RowKit Go.Shelf Go.Maps
attribute [local go_sem] Oper.semAt_some
structure KpE (t t':Array Value):Prop where
 size:t'.size=130
 k1:t'[1]?=t[1]?
 k2:t'[2]?=t[2]?
 k7:t'[7]?=t[7]?
 k8:t'[8]?=t[8]?
 k9:t'[9]?=t[9]?
 k10:t'[10]?=t[10]?
 k11:t'[11]?=t[11]?
 k51:t'[51]?=t[51]?
 k52:t'[52]?=t[52]?
theorem KpE.trans {a b c:Array Value}(h:KpE a b)(g:KpE b c):KpE a c:=
 ⟨g.size,g.k1.trans h.k1,g.k2.trans h.k2,g.k7.trans h.k7,g.k8.trans h.k8,g.k9.trans h.k9,g.k10.trans h.k10,g.k11.trans h.k11,g.k51.trans h.k51,g.k52.trans h.k52⟩
def EdgI (w:World)(N K Mb Mx Cb o Pb:Nat)(G:Gl)(v:Value)(gens t:Nat)(tm:Array Value)(n:Nat)(a:Act)(W:World):Prop:=
 ∃(e:Nat) (rels:List (List Int)) (mt:Nat×Nat→Bool) (rv:Value) (xs:List Value),e≤6∧n=6-e∧KpE tm a.tmps∧a.tmps[55]?=some (.int .i64 (e:Int))∧OW w W N K Mb Mx Cb o Pb G v gens rels mt a.defers rv xs∧PW G (6*t+e) rels mt
def kEdges (f:Func):Code:=cIn (cR (cR (kTet f)))
def c136 (s:RS):Obj:=.cells #[.int .i64 (s.1:Int),.int .i64 (s.2.1:Int),.int .i64 (s.2.2.1:Int),.int .i64 (s.2.2.2.1:Int),.int .i64 (s.2.2.2.2:Int)] 136
theorem six_facts (W1:World)(s s':RS)(ga:Option Addr)(n gc:Nat){W5:World}(h:W5=(((((W1.alloc (c136 s)).alloc (c136 s')).alloc (.cells #[.slice none 0 0] 35)).alloc (.cells #[.bool true] 4)).alloc (c136 s)).alloc (.cells #[.slice ga n gc] 24)) :
  W1.grownBy W5 none∧W5.heap.size=W1.heap.size+6∧C5 W5 (W1.heap.size+1) s'∧W5.cell? ⟨W1.heap.size+1+1,0,none⟩=some (.slice none 0 0)∧W5.frozen? ⟨W1.heap.size+1+1,0,none⟩=false∧W5.cell? ⟨W1.heap.size+1+1+1,0,none⟩=some (.bool true)∧W5.frozen? ⟨W1.heap.size+1+1+1,0,none⟩=false ∧
   C5 W5 (W1.heap.size+1+1+1+1) s∧W5.cell? ⟨W1.heap.size+1+1+1+1+1,0,none⟩=some (.slice ga n gc):=by
 have g:=fun (W:World) (o:Obj)=>World.grownBy_alloc W o none
 unfold c136 at h
 rw[h]
 refine⟨za2 (g _ _) (za2 (g _ _) (za2 (g _ _) (za2 (g _ _) (za2 (g _ _) (g _ _))))),by simp,⟨by simp[go_sem],by simp[go_sem],by simp[go_sem],by simp[go_sem],by simp[go_sem]⟩,by simp[go_sem],by simp[go_sem],by simp[go_sem],by simp[go_sem],⟨by simp[go_sem],by simp[go_sem],by simp[go_sem],by simp[go_sem],by simp[go_sem]⟩,by simp[go_sem]⟩
theorem two_facts (W1:World)(s:RS)(ga:Option Addr)(n gc:Nat){W5:World}(h:W5=(W1.alloc (c136 s)).alloc (.cells #[.slice ga n gc] 24)) :
  W1.grownBy W5 none∧W5.heap.size=W1.heap.size+2∧C5 W5 W1.heap.size s∧W5.cell? ⟨W1.heap.size+1,0,none⟩=some (.slice ga n gc):=by
 have g:=fun (W:World) (o:Obj)=>World.grownBy_alloc W o none
 unfold c136 at h
 rw[h]
 exact⟨za2 (g _ _) (g _ _),by simp,⟨by simp[go_sem],by simp[go_sem],by simp[go_sem],by simp[go_sem],by simp[go_sem]⟩,by simp[go_sem]⟩
theorem gedges_walk {G:Gl}(hok:za9 G=true)(hr:∀i,i<nE G→revK G (6*G.n) i=false){w:World}{N K Mb Mx Cb o Pb gens:Nat}{v:Value}(hGl:GlAt N w v G)(S:OS N K Mb Mx Cb o Pb){t:Nat}(ht:t<G.n)
  (tm:Array Value) (ds:List Deferred) (W:World) (hs:tm.size=130) (s1:tm[1]?=some (.pointer (some ⟨N,0,none⟩))) (s7:tm[7]?=some (.pointer (some ⟨Cb,0,none⟩))) (s9:tm[9]?=some (.pointer (some ⟨Pb,0,none⟩))) (s10:tm[10]?=some (.pointer (some ⟨Mx,0,none⟩)))
  (s11:tm[11]?=some (.int .i64 (t:Int))) (s55:tm[55]?=some (.int .i64 0)) {rels:List (List Int)} {mt:Nat×Nat→Bool} {rv:Value} {xs:List Value} (hW:OW w W N K Mb Mx Cb o Pb G v gens rels mt ds rv xs) (hP:PW G (6*t) rels mt) {Q:Exit→Act→World→Prop}
  (hdone:∀tm' ds' W' rels' mt' rv' xs',KpE tm tm'→OW w W' N K Mb Mx Cb o Pb G v gens rels' mt' ds' rv' xs'→PW G (6*(t+1)) rels' mt'→Q (.exit 2) { tmps:=tm',defers:=ds' } W') :
  (kEdges Try.f38).wp Try.prog Q { tmps:=tm,defers:=ds } W:=by
 refine of_loop rfl ?_
 have hn:G.n≤1000:=zg5 hok
 obtain⟨ga,gc,rfl⟩:∃a cap,v=.slice a G.n cap:=by obtain⟨a,_,_,cap,e,_⟩:=hGl;exact⟨a,cap,e⟩
 have HQ:=Lib.hid hdone
 have HC:=Hd4 hok hr hGl S
 have HS:=Hd6 hs s1 s7 s9 s10 s11
 clear hdone hok hr hGl
 refine wp_loop_ghost (fun n a W=>EdgI w N K Mb Mx Cb o Pb G (.slice ga G.n gc) gens t tm n a W) 6 ⟨0,rels,mt,rv,xs,by omega,rfl,⟨hs,rfl,rfl,rfl,rfl,rfl,rfl,rfl,rfl,rfl⟩,s55,hW,hP⟩ ?_
 clear s1 s7 s9 s10 s11 s55 hs hW hP rels mt rv xs
 rintro n ⟨tm',ds'⟩ W ⟨e,rels,mt,rv,xs,he,rfl,hK,s55,hW,hP⟩
 obtain⟨hs,s1,s7,s9,s10,s11⟩:=HS.out
 rw[←hK.k1] at s1
 rw[←hK.k7] at s7
 rw[←hK.k9] at s9
 rw[←hK.k10] at s10
 rw[←hK.k11] at s11
 obtain⟨u,hu,-⟩:=frame130 tm' hK.size
 simp only at hu
 subst hu
 have e1:u 1=.pointer (some ⟨N,0,none⟩):=Option.some.inj s1
 have e7:u 7=.pointer (some ⟨Cb,0,none⟩):=Option.some.inj s7
 have e9:u 9=.pointer (some ⟨Pb,0,none⟩):=Option.some.inj s9
 have e10:u 10=.pointer (some ⟨Mx,0,none⟩):=Option.some.inj s10
 have e11:u 11=.int .i64 (t:Int):=Option.some.inj s11
 have e55:u 55=.int .i64 (e:Int):=Option.some.inj s55
 simp only at hW
 have HK:=Hd3 hK hW hP
 clear hK s1 s7 s9 s10 s11 s55 hs
 rcases Nat.lt_or_ge e 6 with he6 | he6
 ·have cMx:=hW.mx
  obtain⟨nn,hmap⟩:=hW.map
  obtain⟨mb,hmb⟩:∃mb,mb=mt (t,e):=⟨_,rfl⟩
  have hlook:(Instr.lookup 134 (.map (some Mb)) (.agg #[.int .i64 (t:Int),.int .i64 (e:Int)]) false).run Try.prog W=.ok (.bool mb) W:=by
   have:=hmap.look codes82 und134 (zero4 _) false (t,e) ⟨by show t<_;omega,by show e<_;omega⟩
   unfold kp at this
   rw[this,hmb]
   unfold mD bv
   cases hb:mt (t,e)<;>simp
  have HMB:=Lib.hid hmb
  clear hmap hmb hW hP
  cases mb with
  | true=>
   go_wp2
   refine⟨6-(e+1),by omega,?_⟩
   exact⟨e+1,rels,mt,rv,xs,by omega,rfl,HK.out.1.trans ⟨rfl,congrArg some e1.symm,rfl,congrArg some e7.symm,rfl,congrArg some e9.symm,congrArg some e10.symm,congrArg some e11.symm,rfl,rfl⟩,by simp,HK.out.2.1,HK.out.2.2.skip he6 HMB.out.symm⟩
  | false=>
   have hF:=fun W=>gfirst_walk t e he6 W
   obtain⟨s,hse⟩:∃s,s=frS t e:=⟨_,rfl⟩
   obtain⟨s',hse'⟩:∃s',s'=sw23 s:=⟨_,rfl⟩
   rw[←hse,←hse'] at hF
   unfold zb6 at hF
   have hsR:Rok G.n s:=by rw[hse];exact frS_ok ht he6
   have hsR':Rok G.n s':=by rw[hse'];exact sw23_ok hsR
   have HSE:=Hd4 hse hse' hsR hsR'
   clear hse hse' hsR hsR'
   have hWk:=fun W=>gwalk_walk ga G.n gc s W
   unfold zb6 at hWk
   have hgW:=HK.out.2.1.gb
   go_wp2_with (first
    |(go_at_call 76;(with_reducible refine (hF _).mono ?_);rintro e2 W1 ⟨rfl,hb1⟩;have hg1:=za6 hb1 (Nat.le_refl _) none;have c1:=hg1.cell hgW (by simp);have y1:=za4 (za4 (za4 (za4 c1 (.cells #[.int .i64 (s.1:Int),.int .i64 (s.2.1:Int),.int .i64 (s.2.2.1:Int),.int .i64 (s.2.2.2.1:Int),.int .i64 (s.2.2.2.2:Int)] 136)) (.cells #[.int .i64 (s'.1:Int),.int .i64 (s'.2.1:Int),.int .i64 (s'.2.2.1:Int),.int .i64 (s'.2.2.2.1:Int),.int .i64 (s'.2.2.2.2:Int)] 136)) (.cells #[.slice none 0 0] 35)) (.cells #[.bool true] 4);have H1:=Lib.hid hg1;clear hb1 hg1)
    |(go_at_call 77;(with_reducible refine (hWk _).mono ?_);rintro e2 W5 ⟨rfl,hW5⟩;have H5:=Lib.hid hW5;clear hW5))
   obtain⟨m,hm⟩:=walk_has HC.out.1 HSE.out.2.2.1
   obtain⟨m2,hm2⟩:=walk_has HC.out.1 HSE.out.2.2.2
   have hmb:=walk_bound HC.out.1 HSE.out.2.2.1 hm
   obtain⟨hg5,hz5,hs5,hR0,hRf,hH0,hHf,hf5,hgg5⟩:=six_facts W1 s s' ga G.n gc H5.out
   have hgW5:W.grownBy W5 none:=za2 H1.out hg5
   have hW1:=H1.out.size
   have hO:=HK.out.2.1
   have hO5:=hO.kept S hgW5
   have hKW:=hO.size
   obtain⟨l1,l2,l3,l4,l5,l6⟩:=S.lt
   obtain⟨g1',g2',g3',g4',g5'⟩:=S.ge
   have HM:=Hd3 hm hm2 hmb
   have HG5:=Hd4 hgW5 hs5 hO hO5
   clear y1 c1
   generalize W1.heap.size=B at *
   refine forth_walk (s:=s) HC.out.1 HC.out.2.1 HSE.out.2.2.1 hm hmb (W:=W5) (N:=N) (R:=B+1+1) (H:=B+1+1+1) (Mb:=Mb) (Mx:=Mx) (Cb:=Cb) (o:=o) (Bf:=B+1+1+1+1) (Bg:=B+1+1+1+1+1) (v:=.slice ga G.n gc) (mt:=mt)
    ⟨⟨by omega,by omega,by omega,by omega,by omega,by omega,by omega,by omega,by omega⟩,HC.out.2.2.1.below hO5.bel,hO5.mx,hO5.cb,hO5.row,⟨by omega,by omega,by omega,by omega,by omega,by omega⟩⟩ hO5.map hR0 hRf hH0 hHf hf5 hgg5 ⟨by omega,by omega,by omega,by omega⟩ _ _ rfl rfl rfl rfl rfl rfl ?_
   rintro D W6 hD hDk hI6
   obtain⟨al,hal⟩:∃al,al=(pthB G s m).all (·.2):=⟨_,rfl⟩
   have hmap5:∀c t f,W5.heap[Mb]?≠some (.cells c t f):=fun c t f e=>by
    obtain⟨nn,es,cl,hb,_⟩:=hO5.map
    rw[hb] at e;cases e
   have hs6:=hI6.size
   have hg6:W.grownBy W6 (some Mb):=hI6.grown hgW5 (by omega) (by omega)
   have hO6:=hO.meet S hg6 hI6.map
   have hN6:N≤D:=by omega
   have hO7:=hO6.mark (fun r hr hd=>(hg6.block r (Array.getElem?_eq_some_iff.1 hd).1 (fun e=>by cases e;obtain⟨nn,es,cl,hb,_⟩:=hO.map;rw[hb] at hd;cases hd)).trans hd) hO.marks (by omega) hN6 hDk
   have wh6:=hI6.wh
   rw[←hal] at wh6
   have hPwh:al=true→PW G (6*t+e+1) (rels++[gwrd G s m]) (mtB mt (pthB G s m)):=fun h=>by
    have hc:=(walk_all hm).1 (by rw[←hal];exact h)
    have hm':=hm
    rw[HSE.out.1] at hm' hc ⊢
    exact HK.out.2.2.whole ht he6 hm' hmb hc
   have hPop:al=false→PW G (6*t+e+1) rels (mtB (mtB mt (pthB G s m)) (pthB G s' m2)):=fun h=>by
    have hc:=(walk_all hm).2 (by rw[←hal];exact h)
    have hm':=hm
    rw[HSE.out.2.1]
    rw[HSE.out.1] at hm' hc ⊢
    exact HK.out.2.2.open ht he6 hm' hc
   have HAL:=Hd2 hPwh hPop
   clear hPwh hPop
   have hs6':C5 W6 (B+1) s':=⟨hI6.far hmap5 hs5.1 (by omega) (by omega),hI6.far hmap5 hs5.2.1 (by omega) (by omega),hI6.far hmap5 hs5.2.2.1 (by omega) (by omega),hI6.far hmap5 hs5.2.2.2.1 (by omega) (by omega),hI6.far hmap5 hs5.2.2.2.2 (by omega) (by omega)⟩
   have gb6:=hO6.gb
   have HI6:=Hd4 hI6 hO7 hs6' hmap5
   clear hI6 hO7 hs6' hmap5 hO6 hg6 hO5 hO hgW5 hm hm2 hs5 hf5 hgg5 hR0 hRf hH0 hHf hg5 hal cMx hlook hgW hDk
   cases al with
   | true=>
    obtain⟨x,hx,hxo⟩:=HI6.out.1.word
    obtain⟨xa,xc,rfl⟩:=za8 hxo
    have hO7:=HI6.out.2.1
    obtain⟨ra,rc,hrv⟩:=za8 hO7.own
    have p1:=hO7.p1
    have pf:=hO7.pf
    rw[hrv] at p1
    obtain⟨i3,hi3,hz30,hz31,hz32⟩:=info_parts info35
    have hal:=World.grownBy_alloc W6 (.cells #[.slice xa (gwrd G s m).length xc] 35) none
    have p1a:=hal.cell p1 (by simp)
    have pfa:=(hal.frozen_far ⟨Pb,1,none⟩ (za0 p1) (by simp)).trans pf
    have hne1:some Pb≠(Value.slice ra rels.length rc).ownBlock:=fun e=>by
     have h1:=hO7.own.lt Pb (by rw[hrv];exact e.symm)
     omega
    have hown:=hO7.own.alloc (.cells #[.slice xa (gwrd G s m).length xc] 35)
    rw[hrv] at hown
    have hlen:=HK.out.2.2.len
    have hK6:=hO7.size
    have HY:=Hd6 p1a pfa hne1 hown hxo hrv
    clear hxo hO7 hrv hal p1a pfa hne1 hown
    go_wp2_with (at_builtin;refine (wpList_append_lies _ rfl (.tmp 118) (.tmp 120) 26 rfl K 35 i3 _ 1 24 und26 hi3 hz30 hz31 hz32 rfl (by omega) (.slice ra rels.length rc) rels.length xs rfl HY.out.2.2.2.1 ⟨W6.heap.size,0,none⟩ 1 1 [.slice xa (gwrd G s m).length xc] rfl rfl (World.news_of_block (cs:=#[.slice xa (gwrd G s m).length xc]) (MapKept.heap_alloc W6 _).1) (by simp[Value.oneCell']) (by omega) (by unfold maxLen;omega) (by omega) (by simp;omega) (W6.heap.size+1) (by simp) ?_);intro g9 c9 w9 r1 r2 r3 r4;have k1:=r2.cell HY.out.1 HY.out.2.2.1;have k2:=(r2.frozen_far ⟨Pb,1,none⟩ (za0 HY.out.1) HY.out.2.2.1).trans HY.out.2.1;have HR:=Hd4 r1 r2 r3 r4;clear r1 r2 r3 r4)
    obtain⟨h1,h2,h3,h4,h5,hrv⟩:=HY.out
    have hPu:=HI6.out.2.1.push S (ownsRow_lower h5 (by omega)) HR.out.1 (by rw[hrv];exact HR.out.2.1) (by rw[hrv];exact HR.out.2.2.1)
    refine⟨6-(e+1),by omega,?_⟩
    exact⟨e+1,_,_,_,_,by omega,rfl,HK.out.1.trans ⟨rfl,congrArg some e1.symm,rfl,congrArg some e7.symm,rfl,congrArg some e9.symm,congrArg some e10.symm,congrArg some e11.symm,rfl,rfl⟩,by simp,hPu,HAL.out.1 trivial⟩
   | false=>
    have hWk:=fun W=>gwalk_walk ga G.n gc s' W
    unfold zb6 at hWk
    obtain⟨z0,z1,z2,z3,z4⟩:=HI6.out.2.2.1
    go_wp2_with (first
     |(go_at_call 77;(with_reducible refine (hWk _).mono ?_);rintro e2 W7 ⟨rfl,hW7⟩;have H7:=Lib.hid hW7;clear hW7))
    obtain⟨g67,z67,f7,q7⟩:=two_facts W6 s' ga G.n gc H7.out
    have hO7:=HI6.out.2.1.kept S g67
    have wh7:=g67.cell wh6 (by simp)
    refine back_walk (s:=s') HC.out.1 HC.out.2.1 HSE.out.2.2.2 HM.out.2.1 (W:=W7) (N:=N) (H:=B+1+1+1) (Mb:=Mb) (Mx:=Mx) (Bf:=W6.heap.size) (Bg:=W6.heap.size+1) (v:=.slice ga G.n gc) (mt:=mtB mt (pthB G s m)) (by omega) (by omega) (by omega) (by omega) (by omega) (HC.out.2.2.1.below hO7.bel) hO7.mx hO7.map (wb:=false) wh7 f7 q7 ⟨by omega,by omega⟩ _ _ rfl rfl rfl ?_
    rintro D2 W8 hD2 hDk2 hOB
    have hO8:=hO7.meet S hOB.g hOB.map
    have hO9:=hO8.mark (fun r hr hd=>(hOB.g.block r (Array.getElem?_eq_some_iff.1 hd).1 (fun e=>by cases e;obtain⟨nn,es,cl,hb,_⟩:=hO7.map;rw[hb] at hd;cases hd)).trans hd) hO7.marks hD2 (by omega) hDk2
    have H9:=Lib.hid hO9
    clear hO7 hO8 hO9 hOB hDk2 f7 q7 wh7 g67 z0 z1 z2 z3 z4 wh6 gb6
    go_wp2
    refine⟨6-(e+1),by omega,?_⟩
    exact⟨e+1,_,_,_,_,by omega,rfl,HK.out.1.trans ⟨rfl,congrArg some e1.symm,rfl,congrArg some e7.symm,rfl,congrArg some e9.symm,congrArg some e10.symm,congrArg some e11.symm,rfl,rfl⟩,by simp,H9.out,HAL.out.2 trivial⟩
 ·obtain rfl:e=6:=by omega
  clear hW hP
  go_wp2
  exact HQ.out _ _ _ _ _ _ _ (HK.out.1.trans ⟨rfl,congrArg some e1.symm,rfl,congrArg some e7.symm,rfl,congrArg some e9.symm,congrArg some e10.symm,congrArg some e11.symm,rfl,rfl⟩) HK.out.2.1 HK.out.2.2
end
section
open Go.RowKit Go.Shelf Go.Maps
attribute [local go_sem] Oper.semAt_some
theorem sumL_le (len:Nat→Nat)(c:Nat):∀n,(∀k,k<n→len k≤c)→sumL len n≤n*c
 | 0,_=>by simp[sumL]
 | n+1,h=>by
  have ih:=sumL_le len c n (fun k hk=>h k (by omega))
  have:=h n (by omega)
  simp only[sumL]
  rw[Nat.succ_mul];omega
def SameCells (W W':World):Prop:=∀(k:Nat) (c:Array Value) (t:TypeId) (f:Nat×Nat),W.heap[k]?=some (Obj.cells c t f)→W'.heap[k]?=some (Obj.cells c t f)
theorem SameCells.cell {W W':World}(h:SameCells W W'){i o:Nat}{v:Value}(hc:W.cell? ⟨i,o,none⟩=some v):W'.cell? ⟨i,o,none⟩=some v:=by
 obtain⟨c,t,f,e⟩:=zc7 hc
 exact (World.cell?_of_block (a:=⟨i,o,none⟩) ((h i c t f e).trans e.symm)).trans hc
theorem leaves_marks2 {F:Fence}{n:Nat}{fn:Func}{tmps:Array Value}{R:Ending→World→Prop}{u:FrameMode}(hu:u≠.run)(B:Nat) :
  ∀(rs:List Nat) (W:World),rs.Nodup→(∀r∈rs,B≤r∧W.heap[r]?=some (.deferred (some [])))→(∀W',Below B W W'→SameCells W W'→LeavesInM F n Try.prog fn tmps R [] u W') →
   B≤W.heap.size→LeavesInM F n Try.prog fn tmps R (rs.map (fun r=>{ target:=.collected r,args:=#[] })) u W
 | [],W,_,_,hk,_=>hk W (Below.refl _ _) (fun _ _ _ _ h=>h)
 | r :: rs,W,hn,hr,hk,hB=>by
  obtain⟨hn1,hn2⟩:=List.nodup_cons.1 hn
  have h1:=hr r (by simp)
  have hp:=grownBy_putObj' W r (.deferred none)
  have hb:Below B W (W.putObj r (.deferred none)):=(Below.refl _ _).grown hp hB (fun k e=>by cases e;exact h1.1)
  have hc:SameCells W (W.putObj r (.deferred none)):=fun k c t f h=>by
   have hne:k≠r:=fun e=>by rw[e,h1.2] at h;cases h
   exact (World.putObj_heap_other hne).trans h
  refine⟨hu,.inl ⟨r,_,rfl,run_takeDeferred h1.2,?_⟩⟩
  refine leaves_marks2 hu B rs _ hn2 (fun r' hm=>⟨(hr r' (by simp[hm])).1,?_⟩) (fun W' hb' hc'=>hk W' (hb.trans hb') (fun k c t f h=>hc' k c t f (hc k c t f h))) (by simpa using hB)
  have hne:r'≠r:=fun e=>hn1 (by rw[←e];exact hm)
  exact (World.putObj_heap_other hne).trans (hr r' (by simp[hm])).2
theorem Marks.leaves2 {F:Fence}{n:Nat}{fn:Func}{tmps:Array Value}{R:Ending→World→Prop}{u:FrameMode}{ds:List Deferred}{W:World}{B:Nat}(h:Marks ds W B)(hu:u≠.run)(hB:B≤W.heap.size)(hk:∀W',Below B W W'→SameCells W W'→LeavesInM F n Try.prog fn tmps R [] u W'):LeavesInM F n Try.prog fn tmps R ds u W:=by
 obtain⟨rs,rfl,hn,hr⟩:=h
 exact leaves_marks2 hu B rs W hn hr hk hB
theorem LLc.same {B B':Nat}{W W':World}{v:Value}{n:Nat}{len:Nat→Nat}{f:Nat→Nat→Int}(h:LLc B W v n len f)(hs:SameCells W W')(hB:B≤B'):LLc B' W' v n len f:=by
 obtain⟨a,b,off,cap,rfl,h1,h2⟩:=h
 refine⟨a,b,off,cap,rfl,fun hn=>⟨(h1 hn).1,by have:=(h1 hn).2;omega⟩,fun k hk=>?_⟩
 obtain⟨ra,rb,ro,rc,q1,q2,q3,q4⟩:=h2 k hk
 exact⟨ra,rb,ro,rc,hs.cell q1,q2,fun hl=>⟨(q3 hl).1,by have:=(q3 hl).2;omega⟩,fun i hi=>hs.cell (q4 i hi)⟩
theorem lv_at (r:List Int){i:Nat}(hi:i<r.length):(lv r)[i]?=some (.int .i64 (r.getD i 0)):=by
 unfold lv
 rw[List.getElem?_map,List.getD_eq_getElem?_getD,List.getElem?_eq_getElem hi];rfl
def rlen (rels:List (List Int))(k:Nat):Nat:=(rels.getD k []).length
def rnum (rels:List (List Int))(k i:Nat):Int:=(rels.getD k []).getD i 0
theorem rels_LLc {W:World}{K:Nat}{rels:List (List Int)}{rv:Value}{xs:List Value}(own:W.ownsRow K 35 1 rv rels.length xs)(rows:∀(j:Nat) r,rels[j]?=some r→∃x,xs[j]?=some x∧W.ownsRow K 3 1 x r.length (lv r)):LLc W.heap.size W rv rels.length (rlen rels) (rnum rels):=by
 rcases own.2 with ⟨e,e2⟩ | ⟨g,cap,cur,e,hge,hgg,_⟩
 ·exact⟨none,0,0,0,by rw[e,e2],fun h=>by omega,fun j hj=>by omega⟩
 ·refine⟨_,g,0,cap,e,fun _=>⟨rfl,(Array.getElem?_eq_some_iff.1 hgg).1⟩,fun k hk=>?_⟩
  have hr:rels[k]?=some (rels.getD k []):=by rw[List.getD_eq_getElem?_getD,List.getElem?_eq_getElem hk];rfl
  obtain⟨x,hx,ho⟩:=rows k _ hr
  have hcell:=own.cells (g:=g) (by rw[e];rfl) k _ hx
  rw[Addr.add_mid] at hcell
  rcases ho.2 with ⟨rfl,e2⟩ | ⟨g2,cap2,cur2,rfl,-,hg2,hcap,_⟩
  ·refine⟨none,0,0,0,?_,?_,fun hl=>?_,fun i hi=>?_⟩
   ·unfold rlen;rw[e2];exact hcell
   ·unfold rlen;rw[e2];exact Nat.le_refl _
   ·unfold rlen at hl;omega
   ·unfold rlen at hi;omega
  ·refine⟨_,g2,0,cap2,hcell,hcap,fun _=>⟨rfl,(Array.getElem?_eq_some_iff.1 hg2).1⟩,fun i hi=>?_⟩
   have hi':i<(rels.getD k []).length:=hi
   have:=ho.cells (g:=g2) rfl i (.int .i64 (rnum rels k i)) (lv_at _ hi')
   rw[Addr.add_mid] at this
   exact this
theorem OW.LLc {w W:World}{N K Mb Mx Cb o Pb:Nat}{G:Gl}{v:Value}{gens:Nat}{rels:List (List Int)}{mt:Nat×Nat→Bool}{ds:List Deferred}{rv:Value}{xs:List Value}(h:OW w W N K Mb Mx Cb o Pb G v gens rels mt ds rv xs):LLc W.heap.size W rv rels.length (rlen rels) (rnum rels):=rels_LLc h.own h.rows
structure KpT2 (t t':Array Value):Prop where
 size:t'.size=130
 k1:t'[1]?=t[1]?
 k2:t'[2]?=t[2]?
 k7:t'[7]?=t[7]?
 k8:t'[8]?=t[8]?
 k9:t'[9]?=t[9]?
 k10:t'[10]?=t[10]?
 k51:t'[51]?=t[51]?
theorem KpT2.trans {a b c:Array Value}(h:KpT2 a b)(g:KpT2 b c):KpT2 a c:=
 ⟨g.size,g.k1.trans h.k1,g.k2.trans h.k2,g.k7.trans h.k7,g.k8.trans h.k8,g.k9.trans h.k9,g.k10.trans h.k10,g.k51.trans h.k51⟩
def TetI (w:World)(N K Mb Mx Cb o Pb:Nat)(G:Gl)(v:Value)(gens:Nat)(tm:Array Value)(n:Nat)(a:Act)(W:World):Prop:=
 ∃(t:Nat) (rels:List (List Int)) (mt:Nat×Nat→Bool) (rv:Value) (xs:List Value),t≤G.n∧n=G.n-t∧KpT2 tm a.tmps∧a.tmps[52]?=some (.int .i64 (t:Int))∧OW w W N K Mb Mx Cb o Pb G v gens rels mt a.defers rv xs∧PW G (6*t) rels mt
def kTets (f:Func):Code:=cIn (cR (cL (cR (cR (cR (cR (cR (cR (f.body.getD .skip)))))))))
theorem gtets_walk {G:Gl}(hok:za9 G=true)(hr:∀i,i<nE G→revK G (6*G.n) i=false){w:World}{N K Mb Mx Cb o Pb gens:Nat}{v:Value}(hGl:GlAt N w v G)(S:OS N K Mb Mx Cb o Pb)
  (tm:Array Value) (ds:List Deferred) (W:World) (hs:tm.size=130) (s1:tm[1]?=some (.pointer (some ⟨N,0,none⟩))) (s7:tm[7]?=some (.pointer (some ⟨Cb,0,none⟩))) (s9:tm[9]?=some (.pointer (some ⟨Pb,0,none⟩))) (s10:tm[10]?=some (.pointer (some ⟨Mx,0,none⟩)))
  (s51:tm[51]?=some (.int .i64 (G.n:Int))) (s52:tm[52]?=some (.int .i64 0)) {rv:Value} {xs:List Value} (hW:OW w W N K Mb Mx Cb o Pb G v gens [] (fun _=>false) ds rv xs) {Q:Exit→Act→World→Prop}
  (hdone:∀tm' ds' W' rels' mt' rv' xs',KpT2 tm tm'→OW w W' N K Mb Mx Cb o Pb G v gens rels' mt' ds' rv' xs'→PW G (6*G.n) rels' mt'→Q (.exit 0) { tmps:=tm',defers:=ds' } W') :
  (kTets Try.f38).wp Try.prog Q { tmps:=tm,defers:=ds } W:=by
 refine of_loop rfl ?_
 have hn:G.n≤1000:=zg5 hok
 have HQ:=Lib.hid hdone
 have HC:=Hd4 hok hr hGl S
 have HS:=Hd6 hs s1 s7 s9 s10 s51
 clear hdone hok hr hGl
 refine wp_loop_ghost (fun n a W=>TetI w N K Mb Mx Cb o Pb G v gens tm n a W) G.n ⟨0,[],_,rv,xs,by omega,rfl,⟨hs,rfl,rfl,rfl,rfl,rfl,rfl,rfl⟩,s52,hW,PW.zero G⟩ ?_
 clear s1 s7 s9 s10 s51 s52 hs hW rv xs
 rintro n ⟨tm',ds'⟩ W ⟨t,rels,mt,rv,xs,ht,rfl,hK,s52,hW,hP⟩
 obtain⟨hs,s1,s7,s9,s10,s51⟩:=HS.out
 rw[←hK.k1] at s1
 rw[←hK.k7] at s7
 rw[←hK.k9] at s9
 rw[←hK.k10] at s10
 rw[←hK.k51] at s51
 obtain⟨u,hu,-⟩:=frame130 tm' hK.size
 simp only at hu
 subst hu
 have e1:u 1=.pointer (some ⟨N,0,none⟩):=Option.some.inj s1
 have e7:u 7=.pointer (some ⟨Cb,0,none⟩):=Option.some.inj s7
 have e9:u 9=.pointer (some ⟨Pb,0,none⟩):=Option.some.inj s9
 have e10:u 10=.pointer (some ⟨Mx,0,none⟩):=Option.some.inj s10
 have e51:u 51=.int .i64 (G.n:Int):=Option.some.inj s51
 have e52:u 52=.int .i64 (t:Int):=Option.some.inj s52
 simp only at hW
 have HK:=Hd3 hK hW hP
 clear hK s1 s7 s9 s10 s51 s52 hs hW hP
 rcases Nat.lt_or_ge t G.n with htn | htn
 ·go_wp2
  refine gedges_walk HC.out.1 HC.out.2.1 HC.out.2.2.1 S htn _ _ _ rfl rfl rfl rfl rfl rfl rfl HK.out.2.1 HK.out.2.2 ?_
  rintro tm2 ds2 W2 rels2 mt2 rv2 xs2 hK2 hO2 hP2
  obtain⟨u2,hu2,-⟩:=frame130 tm2 hK2.size
  simp only at hu2
  subst hu2
  have i1:u2 1=.pointer (some ⟨N,0,none⟩):=Option.some.inj hK2.k1
  have i2:u2 2=u 2:=Option.some.inj hK2.k2
  have i7:u2 7=.pointer (some ⟨Cb,0,none⟩):=Option.some.inj hK2.k7
  have i8:u2 8=u 8:=Option.some.inj hK2.k8
  have i9:u2 9=.pointer (some ⟨Pb,0,none⟩):=Option.some.inj hK2.k9
  have i10:u2 10=.pointer (some ⟨Mx,0,none⟩):=Option.some.inj hK2.k10
  have i51:u2 51=.int .i64 (G.n:Int):=Option.some.inj hK2.k51
  have i52:u2 52=.int .i64 (t:Int):=Option.some.inj hK2.k52
  have HJ2:=Hd2 hO2 hP2
  clear hK2 hO2 hP2
  go_wp2
  refine⟨G.n-(t+1),by omega,?_⟩
  exact⟨t+1,_,_,_,_,by omega,rfl,HK.out.1.trans ⟨rfl,congrArg some (i1.trans e1.symm),congrArg some i2,congrArg some (i7.trans e7.symm),congrArg some i8,congrArg some (i9.trans e9.symm),congrArg some (i10.trans e10.symm),congrArg some (i51.trans e51.symm)⟩,rfl,HJ2.out.1,HJ2.out.2⟩
 ·obtain rfl:t=G.n:=by omega
  go_wp2
  exact HQ.out _ _ _ _ _ _ _ (HK.out.1.trans ⟨rfl,congrArg some e1.symm,rfl,congrArg some e7.symm,rfl,congrArg some e9.symm,congrArg some e10.symm,congrArg some e51.symm⟩) HK.out.2.1 HK.out.2.2
end
section
section
variable {s ni:Nat}{li:Nat→Nat}{fi:Nat→Nat→Int}(hp:∀k,k<ni→permB (li k) (fi k) (s:Int)=true)
include hp
theorem mvN_pos {g at':Nat}(hg:g<ni)(ha:at'<s):fi g at'=(mvN li fi ((g:Int)+1) at':Nat)∧mvN li fi ((g:Int)+1) at'<s:=by
 have h1:=zf1 (hp g hg)
 have hl:=zg1 (hp g hg)
 have h2:=h1.2 at' (by omega)
 have e:mvN li fi ((g:Int)+1) at'=(fi g at').toNat:=by
  unfold mvN
  rw[if_pos (by omega),show ((g:Int)+1-1).toNat=g by omega]
 rw[e]
 omega
theorem mvN_neg {g at':Nat}(hg:g<ni)(ha:at'<s):fstI (fi g) (li g) (at':Int)=mvN li fi (-((g:Int)+1)) at'∧mvN li fi (-((g:Int)+1)) at'<s:=by
 have e:mvN li fi (-((g:Int)+1)) at'=fstI (fi g) (li g) (at':Int):=by
  unfold mvN
  rw[if_neg (by omega),show (-(-((g:Int)+1))-1).toNat=g by omega]
 obtain⟨j,hj,he⟩:=perm_at (hp g hg) ha
 rw[e]
 exact⟨rfl,by rw[fstI_perm (hp g hg) hj he];exact hj⟩
end
theorem actW_take {li:Nat→Nat}{fi:Nat→Nat→Int}{r:List Int}{m:Nat}(hm:m<r.length)(i:Nat):actW li fi (r.take (m+1)) i=mvN li fi (r.getD m 0) (actW li fi (r.take m) i):=by
 have:r.take (m+1)=r.take m++[r.getD m 0]:=by
  rw[List.take_add_one,List.getElem?_eq_getElem hm,List.getD_eq_getElem?_getD,List.getElem?_eq_getElem hm];rfl
 rw[this]
 unfold actW
 rw[List.foldl_append];rfl
theorem actW_all {li:Nat→Nat}{fi:Nat→Nat→Int}{r:List Int}(i:Nat):actW li fi (r.take r.length) i=actW li fi r i:=by rw[List.take_length]
theorem rel_letter {G:Gl}(hok:za9 G=true){r:List Int}(h:RelOf G r){m:Nat}(hm:m<r.length):r.getD m 0≠0∧r.getD m 0≤(gnN G (4*G.n):Int)∧-(r.getD m 0)≤(gnN G (4*G.n):Int):=by
 obtain⟨s,k,hs,-,-,-,rfl⟩:=h
 refine gwrd_mem hok hs (m:=k) ?_
 rw[List.getD_eq_getElem?_getD,List.getElem?_eq_getElem hm]
 exact List.getElem_mem hm
theorem getD_mem {rels:List (List Int)}{k:Nat}(hk:k<rels.length):rels.getD k []∈rels:=by
 rw[List.getD_eq_getElem?_getD,List.getElem?_eq_getElem hk]
 exact List.getElem_mem hk
def ActN (li:Nat→Nat)(fi:Nat→Nat→Int)(s:Nat)(rels:List (List Int))(k:Nat):Prop:=∀j,j<k→∀i,i<s→actW li fi (rels.getD j []) i=i
theorem ActN.succ {li:Nat→Nat}{fi:Nat→Nat→Int}{s:Nat}{rels:List (List Int)}{k:Nat}:ActN li fi s rels (k+1)↔ActN li fi s rels k∧∀i,i<s→actW li fi (rels.getD k []) i=i:=
 ⟨fun h=>⟨fun j hj=>h j (by omega),h k (by omega)⟩,fun h j hj=>by
  by_cases e:j=k
  ·rw[e];exact h.2
  ·exact h.1 j (by omega)⟩
theorem ActN.all {li:Nat→Nat}{fi:Nat→Nat→Int}{s:Nat}{rels:List (List Int)}:ActN li fi s rels rels.length↔∀r,r∈rels→∀i,i<s→actW li fi r i=i:=by
 constructor
 ·intro h r hr i hi
  obtain⟨j,hj,e⟩:=List.getElem_of_mem hr
  have:=h j hj i hi
  rw[List.getD_eq_getElem?_getD,List.getElem?_eq_getElem hj] at this
  rw[←e];exact this
 ·intro h j hj i hi
  exact h _ (getD_mem hj) i hi
end
end Go.Proofs.Ytlckpgahijlmoaa
