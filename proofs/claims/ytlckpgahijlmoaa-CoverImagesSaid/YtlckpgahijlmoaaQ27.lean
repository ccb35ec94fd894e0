/- cover's checked. -/
import Derived.Test.YtlckpgahijlmoaaQ26
set_option maxRecDepth 100000
set_option maxHeartbeats 8000000
namespace Go.Proofs.Ytlckpgahijlmoaa
section
open Go.RowKit Go.Shelf Go.Maps
attribute [local go_sem] Oper.semAt_some
theorem CI.kept {W W':World}{K:Nat}{v:Value}{k:Nat}{xs:List Value}{len:Nat→Nat}{f:Nat→Nat→Int}{row:Option Nat}(h:CI W K v k xs len f)(hg:W.grownBy W' row)(hr:∀r,row=some r→r<K):CI W' K v k xs len f:=by
 refine⟨h.own.kept hg ?_,fun j hj=>?_⟩
 ·cases hq:v.ownBlock with
  | none=>exact .inl rfl
  | some b=>exact .inr (fun e=>by have:=hr b e.symm;have:=(h.own.lt b hq).1;omega)
 ·obtain⟨a,d,cap,e,h3,h4⟩:=h.row j hj
  refine⟨a,d,cap,e,fun hp=>?_,fun i hi=>hg.cell (h4 i hi) (fun q=>?_)⟩
  ·obtain⟨r1,r2,r3,r4⟩:=h3 hp
   exact⟨r1,r2,Nat.lt_of_lt_of_le r3 hg.size,r4⟩
  ·have:=hr d q.symm;have:=(h3 (by omega)).2.1;omega
structure BK (w W:World)(N C X s:Nat)(pv uv:Value)(k:Nat)(xs:List Value)(len:Nat→Nat)(fp:Nat→Nat→Int):Prop where
 ci:CI W (C+1) uv k xs (fun _=>s) (fun j=>invP (fp j) s)
 b0:W.cell? ⟨N,0,none⟩=some (.int .i64 (s:Int))
 b1:W.cell? ⟨N,1,none⟩=some pv
 c0:W.cell? ⟨C,0,none⟩=some (.pointer (some ⟨X,0,none⟩))
 c1:W.cell? ⟨C,1,none⟩=some (.int .i64 (s:Int))
 c2:W.cell? ⟨C,2,none⟩=some pv
 c3:W.cell? ⟨C,3,none⟩=some uv
 f3:W.frozen? ⟨C,3,none⟩=false
 bel:Below N w W
 pk:∀j,j<k→permB (len j) (fp j) s=true
theorem BK.kept {w W W':World}{N C X s:Nat}{pv uv:Value}{k:Nat}{xs:List Value}{len:Nat→Nat}{fp:Nat→Nat→Int}(hN:N≤W.heap.size)(h:BK w W N C X s pv uv k xs len fp)(hg:W.grownBy W' none):BK w W' N C X s pv uv k xs len fp:=
 ⟨h.ci.kept hg (fun r e=>by cases e),hg.cell h.b0 (by simp),hg.cell h.b1 (by simp),hg.cell h.c0 (by simp),hg.cell h.c1 (by simp),hg.cell h.c2 (by simp),hg.cell h.c3 (by simp),(hg.frozen_far ⟨C,3,none⟩ (za0 h.c3) (by simp)).trans h.f3,h.bel.grown hg hN (fun r e=>by cases e),h.pk⟩
theorem BK.ne {w W:World}{N C X s:Nat}{pv uv:Value}{k:Nat}{xs:List Value}{len:Nat→Nat}{fp:Nat→Nat→Int}(h:BK w W N C X s pv uv k xs len fp):some C≠uv.ownBlock:=fun e=>by
 have:=(h.ci.own.lt C e.symm).1;omega
theorem BK.push {w W W2 w2:World}{N C X s:Nat}{pv uv:Value}{k:Nat}{xs:List Value}{len:Nat→Nat}{fp:Nat→Nat→Int}{d g gc:Nat}(hCN:C=N+1)(hN:N≤W.heap.size)(h:BK w W N C X s pv uv k xs len fp)(hg:W.grownBy W2 none)
  (hd:W.heap.size≤d) (hd2:d<W2.heap.size) (hc:∀i,i<s→W2.cell? ⟨d,i,none⟩=some (.int .i64 (invP (fp k) s i))) (hp:permB (len k) (fp k) s=true)
  (hown:w2.ownsRow (C+1) 35 1 (.slice (some ⟨g,0,none⟩) (k+1) gc) (k+1) (xs++[.slice (some ⟨d,0,none⟩) s s])) (hgrow:W2.grownBy w2 uv.ownBlock) (hat:uv.ownBlock=some g∨g=W2.heap.size) :
  BK w (w2.setCell ⟨C,3,none⟩ (.slice (some ⟨g,0,none⟩) (k+1) gc)) N C X s pv (.slice (some ⟨g,0,none⟩) (k+1) gc) (k+1) (xs++[.slice (some ⟨d,0,none⟩) s s]) len fp:=by
 have hCl:=za0 h.c3
 simp only at hCl
 have h1:=h.kept hN hg
 have hci:=CI.push (cap:=s) h.ci hg (fun _=>⟨rfl,by omega,hd2,hd⟩) hc hown hgrow hat
 have hsc:=za1 w2 C 3 (.slice (some ⟨g,0,none⟩) (k+1) gc)
 have ne:∀b,b≤C→some b≠uv.ownBlock:=fun b hb e=>by have:=(h.ci.own.lt b e.symm).1;omega
 have k3:=hgrow.cell h1.c3 (ne C (Nat.le_refl _))
 refine⟨hci.kept hsc (fun r e=>by cases e;omega),hsc.cell (hgrow.cell h1.b0 (ne N (by omega))) (by simp;omega),hsc.cell (hgrow.cell h1.b1 (ne N (by omega))) (by simp;omega),?_,?_,?_,World.cell?_setCell_same _ _ _ k3,?_,?_,fun j hj=>?_⟩
 ·exact (World.cell?_setCell_other (a:=⟨C,3,none⟩) (b:=⟨C,0,none⟩) _ _ (by simp)).trans (hgrow.cell h1.c0 (ne C (Nat.le_refl _)))
 ·exact (World.cell?_setCell_other (a:=⟨C,3,none⟩) (b:=⟨C,1,none⟩) _ _ (by simp)).trans (hgrow.cell h1.c1 (ne C (Nat.le_refl _)))
 ·exact (World.cell?_setCell_other (a:=⟨C,3,none⟩) (b:=⟨C,2,none⟩) _ _ (by simp)).trans (hgrow.cell h1.c2 (ne C (Nat.le_refl _)))
 ·rw[World.frozen?_setCell];exact (hgrow.frozen_far ⟨C,3,none⟩ (za0 h1.c3) (ne C (Nat.le_refl _))).trans h1.f3
 ·have hW2:=hg.size
  exact (h1.bel.grown hgrow (by omega) (fun r e=>by have:=(h.ci.own.lt r e).1;omega)).setCell (by show N≤C;omega) _
 ·rcases Nat.lt_or_ge j k with q | q
  ·exact h.pk j q
  ·obtain rfl:j=k:=by omega
   exact hp
def kPerms (f:Func):Code:=cIn (cR (cL (cR (cR (cR (cR (f.body.getD .skip)))))))
structure KpP (t t':Array Value):Prop where
 size:t'.size=190
 k0:t'[0]?=t[0]?
 k3:t'[3]?=t[3]?
 k6:t'[6]?=t[6]?
 k61:t'[61]?=t[61]?
 k62:t'[62]?=t[62]?
theorem KpP.trans {a b c:Array Value}(h:KpP a b)(g:KpP b c):KpP a c:=
 ⟨g.size,g.k0.trans h.k0,g.k3.trans h.k3,g.k6.trans h.k6,g.k61.trans h.k61,g.k62.trans h.k62⟩
theorem zg1 {l s:Nat}{f:Nat→Int}(h:permB l f s=true):l=s:=by
 unfold permB at h
 rw[Bool.and_eq_true] at h
 have:=eq_of_beq h.2
 omega
theorem perms_walk {w W2:World}{N C X s np:Nat}{pv:Value}{len:Nat→Nat}{fp:Nat→Nat→Int}(hCN:C=N+1)(hN0:w.heap.size=N)(hpv:LLs N w pv np len fp)(hlen:∀k,k<np→len k<4611686018427387904)(hnp:np≤4000)(hs1:1≤s)(hs:s≤24)
  (tm:Array Value) (ds:List Deferred) (hz:tm.size=190) (s0:tm[0]?=some (.pointer (some ⟨X,0,none⟩))) (s3:tm[3]?=some (.pointer (some ⟨N,0,none⟩))) (s6:tm[6]?=some (.pointer (some ⟨C,0,none⟩))) (s61:tm[61]?=some pv) (s62:tm[62]?=some (.int .i64 (np:Int))) (s63:tm[63]?=some (.int .i64 0))
  (hB:BK w W2 N C X s pv (.slice none 0 0) 0 [] len fp) {Q:Exit→Act→World→Prop}
  (hdone:∀tm' W' uv xs,KpP tm tm'→BK w W' N C X s pv uv np xs len fp→Q (.exit 0) { tmps:=tm',defers:=ds } W')
  (hpan:∀tm' W',Below N w W'→(∃k,k<np∧permB (len k) (fp k) s=false)→Q (.panic [{ v:=noCov,recovered:=false }]) { tmps:=tm',defers:=ds } W') :
  (kPerms Try.f85).wp Try.prog Q { tmps:=tm,defers:=ds } W2:=by
 have hC1:N+1≤C:=by omega
 have hC2:C≤N+1:=by omega
 have HCN:=Lib.hid hCN
 clear hCN
 refine of_loop rfl ?_
 obtain⟨pa,pb,po,pc,rfl,hp1,hp2⟩:=hpv
 have HQ:=Hd2 hdone hpan
 have HV:=Hd3 hp1 hp2 hlen
 have HS:=Hd6 hz s0 s3 s6 s61 s62
 clear hdone hpan hp1 hp2 hlen
 refine wp_loop_ghost (fun n a W=>∃k uv xs,k≤np∧n=np-k∧KpP tm a.tmps∧a.tmps[63]?=some (.int .i64 ((k:Nat):Int))∧a.defers=ds∧BK w W N C X s (.slice pa np pc) uv k xs len fp) np ⟨0,_,_,by omega,rfl,⟨hz,rfl,rfl,rfl,rfl,rfl⟩,s63,rfl,hB⟩ ?_
 clear s0 s3 s6 s61 s62 s63 hz hB
 rintro n ⟨tm',ds'⟩ W ⟨k,uv,xs,hk,rfl,hK,s63,rfl,hB⟩
 obtain⟨hz,s0,s3,s6,s61,s62⟩:=HS.out
 rw[←hK.k0] at s0
 rw[←hK.k3] at s3
 rw[←hK.k6] at s6
 rw[←hK.k61] at s61
 rw[←hK.k62] at s62
 obtain⟨u,hu,-⟩:=frame190 tm' hK.size
 simp only at hu
 subst hu
 have e0:u 0=.pointer (some ⟨X,0,none⟩):=Option.some.inj s0
 have e3:u 3=.pointer (some ⟨N,0,none⟩):=Option.some.inj s3
 have e6:u 6=.pointer (some ⟨C,0,none⟩):=Option.some.inj s6
 have e61:u 61=.slice pa np pc:=Option.some.inj s61
 have e62:u 62=.int .i64 (np:Int):=Option.some.inj s62
 have e63:u 63=.int .i64 (k:Int):=Option.some.inj s63
 have HK:=Hd2 hK hB
 clear hK s0 s3 s6 s61 s62 s63 hz
 rcases Nat.lt_or_ge k np with hkn | hkn
 ·obtain⟨hp1,hp2,hlen⟩:=HV.out
  obtain⟨rfl,hpB⟩:=hp1 (by omega)
  obtain⟨rv,r1,r2⟩:=hp2 k hkn
  have hlk:=hlen k hkn
  have r1':=(hB.bel.cell (p:=⟨pb,po+k,none⟩) hpB).trans r1
  have b0:=hB.b0
  have hNW:=hB.bel.size
  rw[hN0] at hNW
  have k0:0≤(k:Int):=by omega
  have kn:(k:Int)<(np:Int):=by omega
  have hIs:=isPerm_walk (len k) (fp k) s hlk (by omega) N W hNW rv (r2.below hB.bel)
  have HI:=Hd2 hIs r2
  clear hB hp1 hp2 hlen hIs r2 r1
  cases hperm:permB (len k) (fp k) s with
  | false=>
   have HP:=Lib.hid hperm
   clear hperm
   go_wp2_with (first
    |(go_at_call 71;(with_reducible refine HI.out.1.mono ?_);rintro e w3 ⟨rfl,hb3⟩;rw[HP.out])
    |(go_at_call 115;(with_reducible refine (need_false _).mono ?_);rintro e w5 ⟨rfl,rfl⟩))
   exact HQ.out.2 _ _ (HK.out.2.bel.trans (hb3.mono hNW)) ⟨k,hkn,HP.out⟩
  | true=>
   have hls:=zg1 hperm
   have HP:=Hd2 hperm hls
   clear hperm hls
   go_wp2_with (first
    |(go_at_call 71;(with_reducible refine HI.out.1.mono ?_);rintro e w3 ⟨rfl,hb3⟩;rw[HP.out.1])
    |(go_at_call 115;(with_reducible refine (need_true _).mono ?_);rintro e w5 ⟨⟨v5,rfl⟩,rfl⟩))
   have hgr:W.grownBy w5.drew none:=za2 (za6 hb3 (Nat.le_refl _) none) (zb0 w5 none)
   have hbk5:=HK.out.2.kept hNW hgr
   obtain⟨D,hD⟩:∃D,D=w5.heap.size:=⟨_,rfl⟩
   have hbs:=hb3.size
   have h116:Calls Try.prog 116 #[rv] w5.drew fun e w'=>e=.returned (.slice (some ⟨D,0,none⟩) s s)∧zb7 w' D s (invP (fp k) s)∧Below w5.drew.heap.size w5.drew w':=by
    have hp:=HP.out.1
    have hl:=HP.out.2
    have hv:=HI.out.2
    rw[hl] at hp hv
    have:=invList_walk s (fp k) hp (by omega) N w5.drew (by simp;omega) rv (hv.below hbk5.bel)
    rw[hD];exact this
   have c35:=hbk5.c3
   have H5:=Hd3 hbk5 h116 hgr
   have hD1:D≤w5.heap.size:=by omega
   have hD2:w5.heap.size≤D:=by omega
   obtain⟨i3,hi3,hz30,hz31,hz32⟩:=info_parts info35
   clear hbk5 h116 hgr hD hb3
   refine wp_region_noPanic ?_
   go_region_law (first
    |(go_simp;go_at_call 116;(with_reducible refine H5.out.2.1.mono ?_);rintro e w6 ⟨rfl,hrow,hb6⟩;have hk6:=H5.out.1.kept (by simp;omega) (za6 hb6 (Nat.le_refl _) none);have c36:=hk6.c3;have c36a:=za4 c36;have hs6:=hb6.size;have H6:=Hd3 hk6 hrow hb6;clear hk6 hrow hb6)
    |(refine step_append_lies _ rfl (.tmp 76) (.tmp 79) 26 rfl (C+1) 35 i3 _ 1 24 und26 hi3 hz30 hz31 hz32 rfl (by omega) uv k xs rfl (H6.out.1.ci.own.alloc _) ⟨w6.heap.size,0,none⟩ 1 1 [.slice (some ⟨D,0,none⟩) s s] rfl rfl (World.news_of_block (cs:=#[.slice (some ⟨D,0,none⟩) s s]) (MapKept.heap_alloc w6 _).1) (by simp[Value.oneCell']) (by omega) (by unfold maxLen;omega) (by omega) (by have:=za0 c36;simp at this ⊢;omega) (w6.heap.size+1) (by simp) ?_;intro g cp w8 h1 h2 h3 h4;have c1:=h2.cell (c36a _) H6.out.1.ne;have f1:=(h2.frozen_far ⟨C,3,none⟩ (za0 (c36a _)) H6.out.1.ne).trans (((World.grownBy_alloc w6 _ none).frozen_far ⟨C,3,none⟩ (za0 c36) (by simp)).trans H6.out.1.f3);have HA:=Hd3 h1 h2 h3;clear h1 h2 h3 h4))
   all_goals refine NoPanic.normal ?_
   all_goals go_wp2_with fail
   all_goals exact⟨np-(k+1),by omega,k+1,_,_,by omega,rfl,HK.out.1.trans ⟨rfl,congrArg some e0.symm,congrArg some e3.symm,congrArg some e6.symm,congrArg some e61.symm,congrArg some e62.symm⟩,rfl,trivial,
    BK.push HCN.out (by simp;omega) H5.out.1 (za2 (za6 H6.out.2.2 (Nat.le_refl _) none) (World.grownBy_alloc w6 _ none)) (by simp;omega) (by have:=za0 (H6.out.2.1.cell (show 0<s by omega));simp at this ⊢;omega) (fun i hi=>za4 (H6.out.2.1.cell hi) _) HP.out.1 HA.out.1 HA.out.2.1 (HA.out.2.2.imp id (fun e=>by simpa using e))⟩
 ·obtain rfl:k=np:=by omega
  clear hB
  go_wp2
  exact HQ.out.1 _ _ _ _ (HK.out.1.trans ⟨rfl,congrArg some e0.symm,congrArg some e3.symm,congrArg some e6.symm,congrArg some e61.symm,congrArg some e62.symm⟩) HK.out.2
end
section
open Go.RowKit Go.Shelf Go.Maps
attribute [local go_sem] Oper.semAt_some
theorem fD_some {G:Gl}:∀{k:Nat} {p:Nat×Nat} {c:Nat},fD G k p=some c→∃j,j<k∧p=(j / 4,j % 4)∧c=fN G j
 | 0,p,c,h=>by cases h
 | k+1,p,c,h=>by
  unfold fD at h
  split at h
  ·by_cases e:p=(k / 4,k % 4)
   ·simp only[e,if_true,Option.some.injEq] at h
    exact⟨k,by omega,e,h.symm⟩
   ·simp only[e,if_false] at h
    obtain⟨j,h1,h2,h3⟩:=fD_some h
    exact⟨j,by omega,h2,h3⟩
  ·obtain⟨j,h1,h2,h3⟩:=fD_some h
   exact⟨j,by omega,h2,h3⟩
def freeOK (G:Gl)(s:Nat)(fp:Nat→Nat→Int)(p:Nat×Nat):Prop:=G.tet (4*p.1+p.2)<0→∀i,i<s→fp (fN G (4*p.1+p.2)) i=i
def kFree (f:Func):Code:=cIn (cR (cL (cR (cR (cR (cR (cR (f.body.getD .skip))))))))
structure KpF (t t':Array Value):Prop where
 size:t'.size=190
 k0:t'[0]?=t[0]?
 k3:t'[3]?=t[3]?
 k6:t'[6]?=t[6]?
 k88:t'[88]?=t[88]?
theorem KpF.trans {a b c:Array Value}(h:KpF a b)(g:KpF b c):KpF a c:=
 ⟨g.size,g.k0.trans h.k0,g.k3.trans h.k3,g.k6.trans h.k6,g.k88.trans h.k88⟩
theorem free_walk {G:Gl}(hn:G.n≤1000){Wa W0:World}{N X s np mb r nn cnt:Nat}{a:Option Addr}{cap:Nat}{pv:Value}{fp:Nat→Nat→Int}(hGl:GlAt N Wa (.slice a G.n cap) G)(hNa:N≤Wa.heap.size)(x0:Wa.cell? ⟨X,0,none⟩=some (.slice a G.n cap))(b1:Wa.cell? ⟨N,1,none⟩=some pv)
  (hpv:LLs Wa.heap.size Wa pv np (fun _=>s) fp) (hnp:np=nF G) (hok:za9 G=true) (hra:Wa.heap.size≤r) (hs:s≤24) (_hmb:mb<Wa.heap.size) (hWa:Below Wa.heap.size Wa W0) (hM:MapR W0 okp kp vi mb r nn (fD G (4*G.n)) (fun p=>(fD G (4*G.n) p).isSome) cnt)
  (tm:Array Value) (ds:List Deferred) (hz:tm.size=190) (s0:tm[0]?=some (.pointer (some ⟨X,0,none⟩))) (s3:tm[3]?=some (.pointer (some ⟨N,0,none⟩))) (s88:tm[88]?=some (.pointer (some ⟨r,0,none⟩))) {Q:Exit→Act→World→Prop}
  (hdone:∀tm' W',KpF tm tm'→Below Wa.heap.size Wa W'→(∀p,(fD G (4*G.n) p).isSome=true→freeOK G s fp p)→Q (.exit 2) { tmps:=tm',defers:=ds } W')
  (hpan:∀tm' W',Below Wa.heap.size Wa W'→(∃p,(fD G (4*G.n) p).isSome=true∧¬freeOK G s fp p)→Q (.panic [{ v:=noCov,recovered:=false }]) { tmps:=tm',defers:=ds } W') :
  (kFree Try.f85).wp Try.prog Q { tmps:=tm,defers:=ds } W0:=by
 refine of_loop rfl ?_
 obtain⟨pa,pb,po,pc,rfl,hp1,hp2⟩:=hpv
 have hnpos:=hnp
 have HQ:=Hd2 hdone hpan
 have HV:=Hd5 hp1 hp2 hGl hnp hok
 have HS:=Hd4 hz s0 s3 s88
 clear hdone hpan hp1 hp2 hGl hnp hok
 refine wp_loop_ghost (fun n a W=>∃left,KpF tm a.tmps∧a.defers=ds∧Below Wa.heap.size Wa W∧MapR W okp kp vi mb r nn (fD G (4*G.n)) left n∧∀p,(fD G (4*G.n) p).isSome=true→left p=false→freeOK G s fp p) cnt ⟨_,⟨hz,rfl,rfl,rfl,rfl⟩,rfl,hWa,hM,fun p h1 h2=>by rw[h1] at h2;cases h2⟩ ?_
 clear s0 s3 s88 hz hWa hM
 rintro n ⟨tm',ds'⟩ W ⟨left,hK,rfl,hb,hM,hall⟩
 obtain⟨hz,s0,s3,s88⟩:=HS.out
 rw[←hK.k0] at s0
 rw[←hK.k3] at s3
 rw[←hK.k88] at s88
 obtain⟨u,hu,-⟩:=frame190 tm' hK.size
 simp only at hu
 subst hu
 have e0:u 0=.pointer (some ⟨X,0,none⟩):=Option.some.inj s0
 have e3:u 3=.pointer (some ⟨N,0,none⟩):=Option.some.inj s3
 have e88:u 88=.pointer (some ⟨r,0,none⟩):=Option.some.inj s88
 have HK:=Hd4 hK hb hM hall
 clear hK s0 s3 s88 hz hb hM hall
 go_wp2_with (at_next;refine wpList_next (κ:=kp) (ν:=vi) rfl _ rfl HK.out.2.2.1 (fun a a' _ _ h=>kp_inj a a' h) (by first | exact e88 | rfl) ?_ ?_)
 ·intro hl0
  obtain⟨hK,hb,hM,hall⟩:=HK.out
  have HL:=Lib.hid (fun p hp=>hall p hp (by obtain⟨p1,p2⟩:=p;exact hl0 p1 p2))
  clear hl0 hK hb hM hall
  go_wp2
  exact HQ.out.1 _ _ (HK.out.1.trans ⟨rfl,congrArg some e0.symm,congrArg some e3.symm,rfl,congrArg some e88.symm⟩) HK.out.2.1 HL.out
 ·intro t f c W1 cnt1 hok1 hleft hD hM1 hlt hg1 hs1 hen
  obtain⟨j,hj,hje,hc⟩:=fD_some hD
  obtain⟨rfl,rfl⟩:t=j / 4∧f=j % 4:=by simpa using hje
  obtain⟨t,ht⟩:∃t,t=j / 4:=⟨_,rfl⟩
  obtain⟨f,hf⟩:∃f,f=j % 4:=⟨_,rfl⟩
  have hjt:j=4*t+f:=by omega
  have htn:t<G.n:=by omega
  have hf4:f<4:=by omega
  rw[←ht,←hf] at hok1 hleft hD hM1 hen
  have hbW:=HK.out.2.1
  have hbs:=hbW.size
  have hb1:Below Wa.heap.size Wa W1:=hbW.grown hg1 hbs (fun k e=>by cases e;exact hra)
  obtain⟨hp1,hp2,hGl,hnp,hok⟩:=HV.out
  have hcn:c<np:=by rw[hc,hnp];exact fN_lt hok hj
  obtain⟨rfl,hpB⟩:=hp1 (by omega)
  obtain⟨rv,r1,r2⟩:=hp2 c hcn
  obtain⟨ra,rb,ro,rc,rfl,hr1,hr2⟩:=r2
  have y1:=(hb1.cell (p:=⟨N,1,none⟩) (za0 b1)).trans b1
  have yr:=(hb1.cell (p:=⟨pb,po+c,none⟩) hpB).trans r1
  have y1a:=za4 y1
  have yra:=za4 yr
  have c0:0≤(c:Int):=by omega
  have cn:(c:Int)<(np:Int):=by omega
  have H1:=Hd10 hb1 hM1 hlt hr1 hr2 hleft hD hc hjt hs1
  clear hje hj ht hf hok1 hleft hD hM1 hlt hg1 hs1 hbW hbs hb1 hp1 hp2 hGl hnp hok hr1 hr2 r1 hc hjt
  unfold kp vi at hen
  unfold kp vi
  go_wp2
  obtain⟨A,hA⟩:∃A,A=W1.heap.size:=⟨_,rfl⟩
  rw[←hA]
  refine zb3 fun Wb hWb=>?_
  have hb2:Wb.cell? ⟨A,0,none⟩=some (.int .i64 (t:Int))∧Wb.cell? ⟨A,1,none⟩=some (.int .i64 (f:Int))∧Below Wa.heap.size Wa Wb∧MapR Wb okp kp vi mb r nn (fD G (4*G.n)) (fun x=>left x && !decide (x=(t,f))) cnt1:=by
   have hal:=World.grownBy_alloc W1 (.cells #[.int .i64 (t:Int),.int .i64 (f:Int)] 83) none
   rw[←hWb] at hal
   exact⟨by rw[hWb,hA];simp[go_sem],by rw[hWb,hA];simp[go_sem],H1.out.1.grown hal H1.out.1.size (fun k e=>by cases e),H1.out.2.1.kept hal (by simp) (by simp)⟩
  have H2:=Lib.hid hb2
  clear hb2 hWb hA y1 yr y1a yra hen
  go_loopw [100] (fun i wr=>∃k:Nat,k≤s∧i=.int .i64 k∧Below Wb.heap.size Wb wr∧(G.tet (4*t+f)<0→∀i,i<k→fp c i=i)) (fun i _=>s-(intOf i).toNat)
  case atStart=>exact⟨0,by omega,rfl,Below.refl _ _,fun _ i hi=>by omega⟩
  case round=>
   obtain⟨k,hk,rfl,hbr,hgood⟩:=hrel
   have HB:=Hd2 hbr hgood
   rcases Nat.lt_or_ge k s with hks | hks
   ·obtain⟨rfl,hrB⟩:=H1.out.2.2.2.1 (by omega)
    obtain⟨-,-,⟨ga,gb,go,gc,hge,hga,hgc⟩,-,-⟩:=HV.out
    simp only[Value.slice.injEq,true_and] at hge
    obtain⟨hge1,hge2⟩:=hge
    subst hge1 hge2
    obtain⟨rfl,hgB⟩:=hga (by omega)
    have hba:Below Wa.heap.size Wa wr.drew:=H2.out.2.2.1.trans ((za5 hbr).mono H2.out.2.2.1.size)
    have gx:=(hba.cell (p:=⟨gb,go+5*(4*t+f),none⟩) (by show gb<Wa.heap.size;omega)).trans (hgc (4*t+f) (by omega)).1
    rw[show go+5*(4*t+f)=go+t*20+f*5 by omega] at gx
    have xx:=(hba.cell (p:=⟨X,0,none⟩) (za0 x0)).trans x0
    have rx:=(hba.cell (p:=⟨rb,ro+k,none⟩) hrB).trans (H1.out.2.2.2.2.1 k hks)
    have rx':wr.cell? ⟨rb,ro+k,none⟩=some (.int .i64 (fp c k)):=rx
    have a0:wr.drew.cell? ⟨A,0,none⟩=some (.int .i64 (t:Int)):=(hbr.cell (p:=⟨A,0,none⟩) (za0 H2.out.1)).trans H2.out.1
    have a1:wr.drew.cell? ⟨A,1,none⟩=some (.int .i64 (f:Int)):=(hbr.cell (p:=⟨A,1,none⟩) (za0 H2.out.2.1)).trans H2.out.2.1
    have k0:0≤(k:Int):=by omega
    have ks:(k:Int)<(s:Int):=by omega
    have t0:0≤(t:Int):=by omega
    have tn:(t:Int)<(G.n:Int):=by omega
    have f0:0≤(f:Int):=by omega
    have f4:(f:Int)<4:=by omega
    obtain⟨T,hT⟩:∃T,T=G.tet (4*t+f):=⟨_,rfl⟩
    obtain⟨z,hz⟩:∃z,z=fp c k:=⟨_,rfl⟩
    rw[←hT] at gx
    rw[←hz] at rx rx'
    have HT:=Hd3 hT hz hba
    clear hga hgc hba hbr hgood hT hz
    rcases Int.lt_or_le T 0 with hT0 | hT0
    ·have q1:decide (0≤T)=false:=by simp;omega
     by_cases hzk:z=k
     ·have q2:((k:Int)==z)=true:=by simp;omega
      go_wp2
      refine zd8 19 (by kernel_rfl) (by kernel_rfl) (fun Q2 hQ2=>?_)
      repeat (refine zg0 (fun K hK=>?_);go_simp;refine hK _ ?_;clear hK K)
      refine wpSt_nil (hQ2 _ ?_)
      clear hQ2 Q2
      go_wp2_with (go_at_call 115;(with_reducible refine (need_true _).mono ?_);rintro e w5 ⟨⟨v5,rfl⟩,rfl⟩)
      refine⟨⟨k+1,by omega,by simp,za5 HB.out.1,fun hneg i hi=>?_⟩,by simp[intOf];omega⟩
      rcases Nat.lt_or_ge i k with h | h
      ·exact HB.out.2 hneg i h
      ·obtain rfl:i=k:=by omega
       rw[←HT.out.2.1];exact hzk
     ·have q2:((k:Int)==z)=false:=by simp;omega
      go_wp2
      refine zd8 19 (by kernel_rfl) (by kernel_rfl) (fun Q2 hQ2=>?_)
      repeat (refine zg0 (fun K hK=>?_);go_simp;refine hK _ ?_;clear hK K)
      refine wpSt_nil (hQ2 _ ?_)
      clear hQ2 Q2
      go_wp2_with (go_at_call 115;(with_reducible refine (need_false _).mono ?_);rintro e w5 ⟨rfl,rfl⟩)
      refine HQ.out.2 _ _ HT.out.2.2 ⟨(t,f),by rw[H1.out.2.2.2.2.2.2.1];rfl,fun hfo=>hzk ?_⟩
      have h1:=hfo (by show G.tet (4*t+f)<0;rw[←HT.out.1];exact hT0) k hks
      have h2:=H1.out.2.2.2.2.2.2.2.1
      rw[H1.out.2.2.2.2.2.2.2.2.1] at h2
      rw[HT.out.2.1,h2];exact h1
    ·have q1:decide (0≤T)=true:=by simp;omega
     go_wp2
     refine zd8 19 (by kernel_rfl) (by kernel_rfl) (fun Q2 hQ2=>?_)
     repeat (refine zg0 (fun K hK=>?_);go_simp;refine hK _ ?_;clear hK K)
     refine wpSt_nil (hQ2 _ ?_)
     clear hQ2 Q2
     go_wp2_with (go_at_call 115;(with_reducible refine (need_true _).mono ?_);rintro e w5 ⟨⟨v5,rfl⟩,rfl⟩)
     exact⟨⟨k+1,by omega,by simp,za5 HB.out.1,fun hneg i hi=>by have:=HT.out.1;omega⟩,by simp[intOf];omega⟩
   ·obtain rfl:k=s:=by omega
    clear hbr hgood
    go_wp2
    obtain⟨hbr,hgood⟩:=HB.out
    refine⟨cnt1,H1.out.2.2.1,_,HK.out.1.trans ⟨rfl,congrArg some e0.symm,congrArg some e3.symm,rfl,congrArg some e88.symm⟩,trivial,H2.out.2.2.1.trans (hbr.mono H2.out.2.2.1.size),H2.out.2.2.2.kept (za6 hbr (Nat.le_refl _) none) (by simp) (by simp),fun p hp hl=>?_⟩
    by_cases e:p=(t,f)
    ·subst e
     intro hneg i hi
     have h2:=H1.out.2.2.2.2.2.2.2.1
     rw[H1.out.2.2.2.2.2.2.2.2.1] at h2
     show fp (fN G (4*t+f)) i=i
     rw[←h2];exact hgood hneg i hi
    ·exact HK.out.2.2.2 p hp (by simpa [e] using hl)
end
section
open Go.RowKit Go.Shelf Go.Maps
attribute [local go_sem] Oper.semAt_some
structure CovOK (G:Gl)(sh:Int)(np:Nat)(len:Nat→Nat)(fp:Nat→Nat→Int):Prop where
 lo:1≤sh
 hi:sh≤24
 tets:sh*G.n≤1000
 num:np=nF G
 perms:∀k,k<np→permB (len k) (fp k) sh=true
 free:∀t f,(fD G (4*G.n) (t,f)).isSome=true→G.tet (4*t+f)<0→∀i,i<sh.toNat→fp (fN G (4*t+f)) i=i
 rings:ringsTo G fp (fun k=>invP (fp k) sh.toNat) sh.toNat (6*G.n)
theorem LLs.lens {B:Nat}{W:World}{v:Value}{n:Nat}{len len':Nat→Nat}{f:Nat→Nat→Int}(h:LLs B W v n len f)(e:∀k,k<n→len k=len' k):LLs B W v n len' f:=by
 obtain⟨a,b,off,cap,rfl,h1,h2⟩:=h
 refine⟨a,b,off,cap,rfl,h1,fun k hk=>?_⟩
 obtain⟨rv,h3,h4⟩:=h2 k hk
 exact⟨rv,h3,by rw[←e k hk];exact h4⟩
def LLn (K B:Nat)(W:World)(v:Value)(n:Nat)(len:Nat→Nat)(f:Nat→Nat→Int):Prop:=
 ∃a b off cap,v=.slice a n cap∧(0<n→a=some ⟨b,off,none⟩∧K≤b∧b<B)∧∀k,k<n→∃ra rb ro rc,W.cell? ⟨b,off+k,none⟩=some (.slice ra (len k) rc)∧(0<len k→ra=some ⟨rb,ro,none⟩∧K≤rb∧rb<B)∧∀i,i<len k→W.cell? ⟨rb,ro+i,none⟩=some (.int .i64 (f k i))
theorem LLn.LLs {K B:Nat}{W:World}{v:Value}{n:Nat}{len:Nat→Nat}{f:Nat→Nat→Int}(h:LLn K B W v n len f):LLs B W v n len f:=by
 obtain⟨a,b,off,cap,rfl,h1,h2⟩:=h
 refine⟨a,b,off,cap,rfl,fun hn=>⟨(h1 hn).1,(h1 hn).2.2⟩,fun k hk=>?_⟩
 obtain⟨ra,rb,ro,rc,q1,q2,q3⟩:=h2 k hk
 exact⟨_,q1,ra,rb,ro,rc,rfl,fun hp=>⟨(q2 hp).1,(q2 hp).2.2⟩,q3⟩
theorem LLn.kept {K B:Nat}{W W':World}{v:Value}{n:Nat}{len:Nat→Nat}{f:Nat→Nat→Int}{row:Option Nat}(h:LLn K B W v n len f)(hg:W.grownBy W' row)(hr:∀r,row=some r→r<K):LLn K B W' v n len f:=by
 obtain⟨a,b,off,cap,rfl,h1,h2⟩:=h
 refine⟨a,b,off,cap,rfl,h1,fun k hk=>?_⟩
 obtain⟨ra,rb,ro,rc,q1,q2,q3⟩:=h2 k hk
 exact⟨ra,rb,ro,rc,hg.cell q1 (fun e=>by have:=hr b e.symm;have:=(h1 (by omega)).2.1;omega),q2,fun i hi=>hg.cell (q3 i hi) (fun e=>by have:=hr rb e.symm;have:=(q2 (by omega)).2.1;omega)⟩
theorem LLn.mono {K K' B B':Nat}{W:World}{v:Value}{n:Nat}{len:Nat→Nat}{f:Nat→Nat→Int}(h:LLn K B W v n len f)(hK:K'≤K)(hB:B≤B'):LLn K' B' W v n len f:=by
 obtain⟨a,b,off,cap,rfl,h1,h2⟩:=h
 refine⟨a,b,off,cap,rfl,fun hn=>⟨(h1 hn).1,by have:=(h1 hn).2.1;omega,by have:=(h1 hn).2.2;omega⟩,fun k hk=>?_⟩
 obtain⟨ra,rb,ro,rc,q1,q2,q3⟩:=h2 k hk
 exact⟨ra,rb,ro,rc,q1,fun hp=>⟨(q2 hp).1,by have:=(q2 hp).2.1;omega,by have:=(q2 hp).2.2;omega⟩,q3⟩
theorem CI.LLn {W:World}{K:Nat}{v:Value}{k:Nat}{xs:List Value}{len:Nat→Nat}{f:Nat→Nat→Int}(h:CI W K v k xs len f):LLn K W.heap.size W v k len f:=by
 rcases h.own.2 with ⟨rfl,rfl⟩ | ⟨g,cap,cur,rfl,_,hgg,_⟩
 ·exact⟨none,0,0,0,rfl,fun h=>by omega,fun j hj=>by omega⟩
 ·refine⟨_,g,0,cap,rfl,fun _=>⟨rfl,(h.own.lt g rfl).1,(Array.getElem?_eq_some_iff.1 hgg).1⟩,fun j hj=>?_⟩
  obtain⟨a,d,rc,e,h3,h4⟩:=h.row j hj
  have:=h.own.cells (g:=g) rfl j _ e
  rw[Addr.add_mid] at this
  exact⟨a,d,0,rc,this,fun hp=>⟨(h3 hp).1,(h3 hp).2.1,(h3 hp).2.2.1⟩,fun i hi=>by rw[Nat.zero_add];exact h4 i hi⟩
structure CN (W:World)(K Cv X:Nat)(pv bv:Value)(n sh:Nat)(g:Nat→Nat→Int):Prop where
 c0:W.cell? ⟨Cv,0,none⟩=some (.pointer (some ⟨X,0,none⟩))
 c1:W.cell? ⟨Cv,1,none⟩=some (.int .i64 (sh:Int))
 c2:W.cell? ⟨Cv,2,none⟩=some pv
 c3:W.cell? ⟨Cv,3,none⟩=some bv
 lo:K≤Cv
 bl:LLn K W.heap.size W bv n (fun _=>sh) g
theorem CN.kept {W W':World}{K Cv X:Nat}{pv bv:Value}{n sh:Nat}{g:Nat→Nat→Int}{row:Option Nat}(h:CN W K Cv X pv bv n sh g)(hg:W.grownBy W' row)(hr:∀r,row=some r→r<K):CN W' K Cv X pv bv n sh g:=by
 have ne:some Cv≠row:=fun e=>by have:=hr Cv e.symm;have:=h.lo;omega
 exact⟨hg.cell h.c0 ne,hg.cell h.c1 ne,hg.cell h.c2 ne,hg.cell h.c3 ne,h.lo,(h.bl.kept hg hr).mono (Nat.le_refl _) hg.size⟩
theorem CN.CV {W:World}{K Cv X B' mb:Nat}{v pv bv:Value}{G:Gl}{vv ev tv lv:Value}{dB rB sh:Nat}{f g:Nat→Nat→Int}(h:CN W K Cv X pv bv (nF G) sh g)(hs:SP W B' X mb v G (4*G.n) vv ev tv lv dB rB)(hp:LLs W.heap.size W pv (nF G) (fun _=>sh) f):CV W W.heap.size Cv B' X mb v pv bv G vv ev tv lv dB rB sh f g:=
 ⟨h.c0,h.c1,h.c2,h.c3,hs,hp,h.bl.LLs⟩
theorem SP.keptRow {W W':World}{B X mb:Nat}{v:Value}{G:Gl}{k:Nat}{vv ev tv lv:Value}{dB rB r:Nat}(h:SP W B X mb v G k vv ev tv lv dB rB)(hg:W.grownBy W' (some r))(hr:r<B):SP W' B X mb v G k vv ev tv lv dB rB:=by
 have nX:some X≠some r:=fun e=>by have:=h.lo.1;cases e;omega
 have nM:some mb≠some r:=fun e=>by have:=h.lo.2;cases e;omega
 have ow:∀{e:TypeId} {z n:Nat} {u:Value} {xs:List Value},W.ownsRow B e z u n xs→some r=none∨u.ownBlock≠some r:=fun hu=>.inr (fun e=>by have:=(hu.lt r e).1;omega)
 obtain⟨nn,hm⟩:=h.map
 exact⟨hg.cell h.c0 nX,hg.cell h.c1 nX,hg.cell h.c2 nX,hg.cell h.c3 nX,hg.cell h.c4 nX,hg.cell h.c5 nX,hg.cell h.c6 nX,hg.cell h.c7 nX,hg.cell h.c8 nX,(hg.frozen_far ⟨X,8,none⟩ h.lt nX).trans h.f8,h.own.kept hg (by
  cases hq:ev.ownBlock with
  | none=>exact .inl rfl
  | some b=>exact .inr (fun e=>by have:=(h.own.lt b hq).1;cases e;omega)),h.twn.kept hg (by
  cases hq:tv.ownBlock with
  | none=>exact .inl rfl
  | some b=>exact .inr (fun e=>by have:=(h.twn.lt b hq).1;cases e;omega)),⟨nn,hm.kept hg nM⟩,h.ne,h.lo⟩
theorem invP_range {f:Nat→Int}{s:Nat}(hs:1≤s)(x:Nat):∀k,k≤s→0≤invP f k x∧invP f k x<s
 | 0,_=>by simp only[invP];omega
 | k+1,hk=>by
  simp only[invP]
  split
  ·omega
  ·exact invP_range hs x k (by omega)
theorem checked_walk {G:Gl}(hok:za9 G=true){w:World}{B' X mb:Nat}{v vv ev tv lv:Value}{dB rB:Nat}(hSP:SP w B' X mb v G (4*G.n) vv ev tv lv dB rB)(hGl:GlAt w.heap.size w v G)
  (sh:Int) (pv:Value) (np:Nat) (len:Nat→Nat) (fp:Nat→Nat→Int) (hpv:LLs w.heap.size w pv np len fp) (hlen:∀k,k<np→len k<4611686018427387904) (hnp:np<4611686018427387904) :
  Calls Try.prog 85 #[.pointer (some ⟨X,0,none⟩),.agg #[.int .i64 sh,pv]] w fun e w'=>Below w.heap.size w w'∧((CovOK G sh np len fp∧∃Cv bv,e=.returned (.pointer (some ⟨Cv,0,none⟩))∧CN w' w.heap.size Cv X pv bv (nF G) sh.toNat (fun k=>invP (fp k) sh.toNat)) ∨
   (¬CovOK G sh np len fp∧e=.panicked [{ v:=noCov,recovered:=false }])):=by
 have hn:G.n≤1000:=by simp only[za9,Bool.and_eq_true,decide_eq_true_eq] at hok;exact hok.1
 have x0:=hSP.c0
 have x8:=hSP.c8
 have hnF:cnt (zb5 G).r4 (4*G.n)=nF G:=rfl
 rw[hnF] at x8
 obtain⟨a,cap,hv⟩:∃a cap,v=.slice a G.n cap:=by obtain⟨a,_,_,cap,e,_⟩:=hGl;exact⟨a,cap,e⟩
 subst hv
 obtain⟨pa,pc,hpe⟩:∃a cap,pv=.slice a np cap:=by obtain⟨a,_,_,cap,e,_⟩:=hpv;exact⟨a,cap,e⟩
 subst hpe
 have lX:=za0 x0
 simp only at lX
 have HC:=Hd5 hok hSP hGl hpv hlen
 clear hok hSP hGl hpv hlen hnF
 refine (callsIn_wide (n:=6)).1 ?_
 refine callsIn_of_wp_marks Try.func85 rfl trivial ?_ rfl
 simp only[Try.ntmps85,List.size_toArray,List.length_cons,List.length_nil,Nat.reduceAdd,Nat.reduceSub,Array.replicate_succ,Array.replicate_zero,List.push_toArray,List.append_toArray,List.nil_append,List.cons_append]
 refine wpIn_wide.2 ?_
 have x0a:=za4 (o:=.cells #[.int .i64 sh,.slice pa np pc] 28) x0
 go_wp2
 refine zb3 fun W1 hW=>?_
 have h1:w.grownBy W1 none∧W1.cell? ⟨w.heap.size,0,none⟩=some (.int .i64 sh)∧W1.cell? ⟨w.heap.size,1,none⟩=some (.slice pa np pc)∧W1.cell? ⟨X,8,none⟩=some (.int .i64 (nF G:Nat))∧W1.heap.size=w.heap.size+1:=by
  rw[hW]
  exact⟨World.grownBy_alloc w _ none,by simp[go_sem],by simp[go_sem],za4 x8 _,by simp⟩
 obtain⟨g1,b0,b1,y8,z1⟩:=h1
 replace b0:W1.drew.cell? ⟨w.heap.size,0,none⟩=some (.int .i64 sh):=b0
 replace b1:W1.drew.cell? ⟨w.heap.size,1,none⟩=some (.slice pa np pc):=b1
 replace y8:W1.drew.cell? ⟨X,8,none⟩=some (.int .i64 (nF G:Nat)):=y8
 have HG1:=Lib.hid g1
 clear g1 hW x0a
 generalize hN:w.heap.size=N at *
 have HW1:=Lib.hid (show Below N w W1.drew by rw[←hN];exact za5 ((Below.refl _ _).grown HG1.out (Nat.le_refl _) (fun k h=>by cases h)))
 have hcase:sh<1∨(1≤sh∧24<sh)∨(∃s p:Nat,sh=(s:Int)∧1≤s∧s≤24∧p=s*G.n∧p≤24000):=by
  rcases Int.lt_or_le sh 1 with h | h
  ·exact .inl h
  ·rcases Int.lt_or_le 24 sh with h2 | h2
   ·exact .inr (.inl ⟨h,h2⟩)
   ·exact .inr (.inr ⟨sh.toNat,_,by omega,by omega,by omega,rfl,Nat.le_trans (Nat.mul_le_mul (show sh.toNat≤24 by omega) hn) (by omega)⟩)
 rcases hcase with c1 | ⟨c1,c2⟩ | ⟨s,p,rfl,c1,c2,hp,hp2⟩
 ·have q1:decide (1≤sh)=false:=by simp;omega
  refine zd8 25 (by kernel_rfl) (by kernel_rfl) (fun Q2 hQ2=>?_)
  repeat (refine zg0 (fun K hK=>?_);go_simp;refine hK _ ?_;clear hK K)
  refine wpSt_nil (hQ2 _ ?_)
  clear hQ2 Q2
  go_wp2_with (go_at_call 115;(with_reducible refine (need_false _).mono ?_);rintro e w5 ⟨rfl,rfl⟩)
  exact⟨hN▸HW1.out,.inr ⟨fun h=>by have:=h.lo;omega,rfl⟩⟩
 ·have q1:decide (1≤sh)=true:=by simp;omega
  have q2:decide (sh≤24)=false:=by simp;omega
  refine zd8 25 (by kernel_rfl) (by kernel_rfl) (fun Q2 hQ2=>?_)
  repeat (refine zg0 (fun K hK=>?_);go_simp;refine hK _ ?_;clear hK K)
  refine wpSt_nil (hQ2 _ ?_)
  clear hQ2 Q2
  go_wp2_with (go_at_call 115;(with_reducible refine (need_false _).mono ?_);rintro e w5 ⟨rfl,rfl⟩)
  exact⟨hN▸HW1.out,.inr ⟨fun h=>by have:=h.hi;omega,rfl⟩⟩
 ·have q1:decide (1≤(s:Int))=true:=by simp;omega
  have q2:decide ((s:Int)≤24)=true:=by simp;omega
  have q3:IntKind.i64.wrap ((s:Int)*(G.n:Int))=(p:Int):=by rw[hp];rw[IntWalk.i64_in _ (by push_cast at *;omega)];push_cast;rfl
  have HP:=Lib.hid hp
  clear hp
  by_cases c3:p≤1000
  ·have q4:decide ((p:Int)≤1000)=true:=by simp;omega
   by_cases c4:np=nF G
   ·have q5:((np:Int)==(nF G:Int))=true:=by simp;omega
    have b1d:∀o,(W1.alloc o).drew.cell? ⟨N,1,none⟩=some (.slice pa np pc):=fun o=>za4 (w:=W1) b1 o
    have HNP:=Lib.hid c4
    clear c4
    refine zd8 25 (by kernel_rfl) (by kernel_rfl) (fun Q2 hQ2=>?_)
    repeat (refine zg0 (fun K hK=>?_);go_simp;refine hK _ ?_;clear hK K)
    refine wpSt_nil (hQ2 _ ?_)
    clear hQ2 Q2
    go_wp2_with (go_at_call 115;(with_reducible refine (need_true _).mono ?_);rintro e w5 ⟨⟨v5,rfl⟩,rfl⟩)
    obtain⟨C,hCd⟩:∃C,C=N+1:=⟨_,rfl⟩
    rw[←hCd]
    refine zb3 fun W2 hW=>?_
    have hB2:BK w W2 N C X s (.slice pa np pc) (.slice none 0 0) 0 [] len fp:=by
     have hC1:C=W1.heap.size:=by omega
     have hal:=World.grownBy_alloc W1 (.cells #[.pointer (some ⟨X,0,none⟩),.int .i64 (s:Int),.slice pa np pc,.slice none 0 0] 102) none
     have hg2:W1.grownBy W2 none:=by rw[hW];exact za2 hal (zb0 _ none)
     have cl:∀i x,(#[.pointer (some ⟨X,0,none⟩),.int .i64 (s:Int),.slice pa np pc,.slice none 0 0]:Array Value)[i]?=some x→W2.cell? ⟨C,i,none⟩=some x:=fun i x hx=>by
      rw[hW]
      show (W1.alloc _).cell? _=_
      rw[World.cell?_alloc_at _ _ _ _ hC1];exact hx
     have hbel:Below N w W2:=(show Below N w W1 from⟨HW1.out.os,HW1.out.tape,HW1.out.output,HW1.out.size,HW1.out.block⟩).grown hg2 (by omega) (fun k h=>by cases h)
     exact⟨⟨World.ownsRow_nil _ _ _ _,fun j hj=>by omega⟩,hg2.cell (show W1.cell? _=_ from b0) (by simp),hg2.cell (show W1.cell? _=_ from b1) (by simp),cl 0 _ rfl,cl 1 _ rfl,cl 2 _ rfl,cl 3 _ rfl,by rw[hW];exact World.frozen?_alloc_at _ _ _ _ hC1,hbel,fun j hj=>by omega⟩
    have hnp4:np≤4000:=by have:=HNP.out;have:=zg7 (zb5 G).r4 (4*G.n);unfold nF at *;omega
    clear b1d b0 b1 y8 hW q1 q2 q3 q4 q5
    refine perms_walk hCd hN HC.out.2.2.2.1 HC.out.2.2.2.2 hnp4 c1 c2 _ _ rfl rfl rfl rfl rfl rfl rfl hB2 ?_ ?_
    ·intro tm2 W3 uv xs hK3 hB3
     obtain⟨u,hu,-⟩:=frame190 tm2 hK3.size
     simp only at hu
     subst hu
     have i0:u 0=.pointer (some ⟨X,0,none⟩):=Option.some.inj hK3.k0
     have i3:u 3=.pointer (some ⟨N,0,none⟩):=Option.some.inj hK3.k3
     have i6:u 6=.pointer (some ⟨C,0,none⟩):=Option.some.inj hK3.k6
     have hb3:Below w.heap.size w W3:=by rw[hN];exact hB3.bel
     have hSP3:=HC.out.2.1.below hb3
     have y7:=hSP3.c7
     obtain⟨nn,hmap⟩:=hSP3.map
     have hmb:=hmap.lt
     have hNs:=hB3.bel.size
     have H3:=Hd4 hB3 hb3 hSP3 hmap
     clear hK3 hB3 hb3 hSP3 hmap
     go_wp2_with (at_range;refine wpList_range rfl 78 _ rfl und78 H3.out.2.2.2 rfl ?_;intro W4 cnt hM hg4 hs4)
     go_frame
     have hpk:=H3.out.1.pk
     have hlens:∀k,k<np→len k=s:=fun k hk=>zg1 (hpk k hk)
     have hpv3:LLs W3.heap.size W3 (.slice pa np pc) np (fun _=>s) fp:=((HC.out.2.2.2.1.below H3.out.1.bel).mono (by omega)).lens hlens
     have hGl3:=HC.out.2.2.1.below H3.out.1.bel
     have hb4:Below W3.heap.size W3 W4:=(Below.refl _ _).grown hg4 (Nat.le_refl _) (fun k h=>by cases h)
     have H4:=Hd5 hpk hlens hpv3 hGl3 hb4
     refine free_walk hn (Wa:=W3) (W0:=W4) (N:=N) (X:=X) (s:=s) (np:=np) (mb:=mb) (r:=W3.heap.size) (nn:=nn) (cnt:=cnt) (fp:=fp) hGl3 (by omega) H3.out.2.2.1.c0 H3.out.1.b1 hpv3 HNP.out HC.out.1 (Nat.le_refl _) c2 hmb hb4 hM _ _ rfl (congrArg some i0) (congrArg some i3) rfl ?_ ?_
     ·intro tm4 W5 hK5 hb5 hfree
      have g5:=za6 hb5 (Nat.le_refl _) none
      have hB5:=H3.out.1.kept (by omega) g5
      have hbw5:Below w.heap.size w W5:=H3.out.2.1.trans (hb5.mono H3.out.2.1.size)
      have hf:InSh (nF G) s fp:=fun k hk i hi=>by
       have hk2:k<np:=by rw[HNP.out];exact hk
       have h1:=zf1 (H4.out.1 k hk2)
       have h2:=H4.out.2.1 k hk2
       exact h1.2 i (by omega)
      have hg:InSh (nF G) s (fun k=>invP (fp k) s):=fun k hk i hi=>invP_range c1 i s (Nat.le_refl _)
      have hCV:CV W5 W5.heap.size C B' X mb (.slice a G.n cap) (.slice pa np pc) uv G vv ev tv lv dB rB s fp (fun k=>invP (fp k) s):=
       ⟨hB5.c0,hB5.c1,hB5.c2,hB5.c3,HC.out.2.1.below hbw5,by rw[←HNP.out];exact (H4.out.2.2.1.below hb5).mono hb5.size,by rw[←HNP.out];exact hB5.ci.LLs⟩
      have hCN5:CN W5 w.heap.size C X (.slice pa np pc) uv (nF G) s (fun k=>invP (fp k) s):=⟨hB5.c0,hB5.c1,hB5.c2,hB5.c3,by omega,by rw[←HNP.out];exact hB5.ci.LLn.mono (by omega) (Nat.le_refl _)⟩
      go_step
      go_step
      refine tail_walk HC.out.1 hCV (Nat.le_refl _) hf hg c2 ((HC.out.2.2.1.below hB5.bel).mono (by have:=hb5.size;omega)) hB5.b0 _ hK5.size (hK5.k0.trans (congrArg some i0)) (hK5.k3.trans (congrArg some i3)) (hK5.k6.trans (congrArg some i6)) ?_ ?_
      ·intro W6 hb6 hrings
       exact⟨hbw5.trans (hb6.mono hbw5.size),.inl ⟨⟨by omega,by omega,(by have h3:=HP.out;rw[←Int.natCast_mul,←h3];omega),HNP.out,H4.out.1,fun t f h1 h2 i hi=>hfree (t,f) h1 h2 i hi,hrings⟩,C,uv,rfl,hCN5.kept (za6 hb6 (Nat.le_refl _) none) (fun r e=>by cases e)⟩⟩
      ·intro W6 hb6 hbad
       exact⟨hbw5.trans (hb6.mono hbw5.size),.inr ⟨fun h=>hbad h.rings,rfl⟩⟩
     ·rintro tm4 W5 hb5 ⟨pp,hsome,hbad⟩
      go_wp2
      exact⟨H3.out.2.1.trans (hb5.mono H3.out.2.1.size),.inr ⟨fun h=>hbad (fun hneg i hi=>h.free pp.1 pp.2 hsome hneg i hi),rfl⟩⟩
    ·rintro tm2 W3 hb3 ⟨k,hk,hbad⟩
     go_wp2
     exact⟨(by rw[hN];exact hb3),.inr ⟨(fun h=>by have:=h.perms k hk;rw[this] at hbad;exact Bool.noConfusion hbad),rfl⟩⟩
   ·have q5:((np:Int)==(nF G:Int))=false:=by simp;omega
    refine zd8 25 (by kernel_rfl) (by kernel_rfl) (fun Q2 hQ2=>?_)
    repeat (refine zg0 (fun K hK=>?_);go_simp;refine hK _ ?_;clear hK K)
    refine wpSt_nil (hQ2 _ ?_)
    clear hQ2 Q2
    go_wp2_with (go_at_call 115;(with_reducible refine (need_false _).mono ?_);rintro e w5 ⟨rfl,rfl⟩)
    exact⟨hN▸HW1.out,.inr ⟨fun h=>c4 h.num,rfl⟩⟩
  ·have q4:decide ((p:Int)≤1000)=false:=by simp;omega
   refine zd8 25 (by kernel_rfl) (by kernel_rfl) (fun Q2 hQ2=>?_)
   repeat (refine zg0 (fun K hK=>?_);go_simp;refine hK _ ?_;clear hK K)
   refine wpSt_nil (hQ2 _ ?_)
   clear hQ2 Q2
   go_wp2_with (go_at_call 115;(with_reducible refine (need_false _).mono ?_);rintro e w5 ⟨rfl,rfl⟩)
   exact⟨hN▸HW1.out,.inr ⟨fun h=>by have h2:=h.tets;have h3:=HP.out;rw[←Int.natCast_mul,←h3] at h2;omega,rfl⟩⟩
end
end Go.Proofs.Ytlckpgahijlmoaa
