/- skel.Ring of a valid gluing, a tetrahedron of it and a permutation. -/
import Derived.Test.YtlckpgahijlmoaaQ22
set_option maxRecDepth 100000
set_option maxHeartbeats 8000000
namespace Go.Proofs.Ytlckpgahijlmoaa
section
open Go.RowKit Go.Shelf
attribute [local go_sem] Oper.semAt_some
def RingAns (G:Gl)(s:RS)(w:World)(e:Ending)(w':World):Prop:=
 Below w.heap.size w w'∧∃rv cl,e=.returned (.tuple #[rv,.bool cl,.int .i64 0]) ∧
  (cl=true→∃m,0<m∧itr G 2 s m=some s∧(∀i,0<i→i<m→itr G 2 s i≠some s)∧w'.ownsRow w.heap.size 160 5 rv m (zg6 (pth G 2 s m)))∧(cl=false→∃m,itr G 2 s m=none)
structure RBx (W:World)(N:Nat)(v:Value)(s:RS):Prop where
 c0:W.cell? ⟨N,0,none⟩=some v
 p0:W.cell? ⟨N+1,0,none⟩=some (.int .i64 (s.2.1:Int))
 p1:W.cell? ⟨N+1,1,none⟩=some (.int .i64 (s.2.2.1:Int))
 p2:W.cell? ⟨N+1,2,none⟩=some (.int .i64 (s.2.2.2.1:Int))
 p3:W.cell? ⟨N+1,3,none⟩=some (.int .i64 (s.2.2.2.2:Int))
 c2:W.cell? ⟨N+1+1,0,none⟩=some (.slice none 0 0)
 c3:W.cell? ⟨N+1+1+1,0,none⟩=some (.bool false)
 c4:W.cell? ⟨N+1+1+1+1,0,none⟩=some (.int .i64 0)
 f2:W.frozen? ⟨N+1+1,0,none⟩=false
 f3:W.frozen? ⟨N+1+1+1,0,none⟩=false
 f4:W.frozen? ⟨N+1+1+1+1,0,none⟩=false
theorem RBx.kept {W W':World}{N:Nat}{v:Value}{s:RS}(h:RBx W N v s)(hg:W.grownBy W' none):RBx W' N v s:=
 ⟨hg.cell h.c0 (by simp),hg.cell h.p0 (by simp),hg.cell h.p1 (by simp),hg.cell h.p2 (by simp),hg.cell h.p3 (by simp),hg.cell h.c2 (by simp),hg.cell h.c3 (by simp),hg.cell h.c4 (by simp),
  (hg.frozen_far ⟨N+1+1,0,none⟩ (za0 h.c2) (by simp)).trans h.f2,(hg.frozen_far ⟨N+1+1+1,0,none⟩ (za0 h.c3) (by simp)).trans h.f3,(hg.frozen_far ⟨N+1+1+1+1,0,none⟩ (za0 h.c4) (by simp)).trans h.f4⟩
theorem RBx.made (w:World)(v:Value)(s:RS):RBx (((((w.alloc (.cells #[v] 24)).alloc (.cells #[.int .i64 (s.2.1:Int),.int .i64 (s.2.2.1:Int),.int .i64 (s.2.2.2.1:Int),.int .i64 (s.2.2.2.2:Int)] 85)).alloc (.cells #[.slice none 0 0] 157)).alloc (.cells #[.bool false] 4)).alloc (.cells #[.int .i64 0] 29)) w.heap.size v s:=
 ⟨by simp[go_sem],by simp[go_sem],by simp[go_sem],by simp[go_sem],by simp[go_sem],by simp[go_sem],by simp[go_sem],by simp[go_sem],by simp[go_sem],by simp[go_sem],by simp[go_sem]⟩
theorem zb4 {P:Program}{f:FuncId}{args:Array Value}{w:World}{R:Ending→World→Prop}(h:∀W,W=w→Calls P f args W R):Calls P f args w R:=h w rfl
theorem act_named {P:Program}{c:Code}{Q:Exit→Act→World→Prop}{a:Act}{w:World}(h:∀A,A=a→c.wp P Q A w):c.wp P Q a w:=h a rfl
theorem Ring_walk {G:Gl}(hok:za9 G=true){s:RS}(hs:Rok G.n s)(v:Value)(w:World)(hG:GlAt w.heap.size w v G) :
  Calls Try.prog 117 #[.agg #[v],.int .i64 (s.1:Int),.agg #[.int .i64 (s.2.1:Int),.int .i64 (s.2.2.1:Int),.int .i64 (s.2.2.2.1:Int),.int .i64 (s.2.2.2.2:Int)]] w (RingAns G s w):=by
 have hn:G.n≤1000:=by simp only[za9,Bool.and_eq_true,decide_eq_true_eq] at hok;exact hok.1
 have e7:zd6 G=0:=by simp[zd6,hok]
 have hval:zc9 (fun i=>if i=0 then (s.2.1:Int) else if i=1 then (s.2.2.1:Int) else if i=2 then (s.2.2.2.1:Int) else (s.2.2.2.2:Int))=true:=valid_quad hs.l.1 hs.l.2.1 hs.l.2.2.1 hs.l.2.2.2 hs.d _ rfl rfl rfl rfl
 have V1:=fun w=>valid_walk (fun i=>if i=0 then (s.2.1:Int) else if i=1 then (s.2.2.1:Int) else if i=2 then (s.2.2.2.1:Int) else (s.2.2.2.2:Int)) w
 have V2:∀w,Calls Try.prog 82 #[.agg #[.int .i64 (s.2.1:Int),.int .i64 (s.2.2.1:Int),.int .i64 (s.2.2.2.1:Int),.int .i64 (s.2.2.2.2:Int)]] w fun e w'=>e=.returned (.bool true)∧Below w.heap.size w w':=fun w=>by
  have:=V1 w
  rw[hval] at this
  exact this
 clear V1 hval
 have HV:=Lib.hid V2;clear V2
 have HG:=Lib.hid hG
 obtain⟨a,b,off,cap,rfl,hga,hc⟩:=hG
 clear hga hc
 have HS:=Hd2 hok hs
 have ht:=hs.t
 clear hok hs
 obtain⟨t,ta⟩:∃t,t=s.1:=⟨_,rfl⟩
 have HT:=Lib.hid ta
 rw[←ta] at ht ⊢
 clear ta
 have t0:0≤(t:Int):=by omega
 have tn:(t:Int)<(G.n:Int):=by omega
 have hd1:decide ((t:Int)<0)=false:=by simp
 have hd2:decide (G.n≤t)=false:=by simp;exact ht
 refine (callsIn_wide (n:=6)).1 ?_
 refine callsIn_of_wp_marks Try.func117 rfl trivial ?_ rfl
 simp only[Try.ntmps117,List.size_toArray,List.length_cons,List.length_nil,Nat.reduceAdd,Nat.reduceSub,Array.replicate_succ,Array.replicate_zero,List.push_toArray,List.append_toArray,List.nil_append,List.cons_append]
 refine wpIn_wide.2 ?_
 go_wp2_with fail
 have hB0:Below w.heap.size w (((((w.alloc (.cells #[.slice a G.n cap] 24)).alloc (.cells #[.int .i64 (s.2.1:Int),.int .i64 (s.2.2.1:Int),.int .i64 (s.2.2.2.1:Int),.int .i64 (s.2.2.2.2:Int)] 85)).alloc (.cells #[.slice none 0 0] 157)).alloc (.cells #[.bool false] 4)).alloc (.cells #[.int .i64 0] 29)):=by (repeat' (first | assumption | exact Below.refl _ _ | refine za7 ?_ (by assumption) | refine zb2 ?_ _ | refine za5 ?_ | refine zb1 ?_ (by simp<;>omega) _))
 have hR0:=RBx.made w (.slice a G.n cap) s
 refine zb4 fun W0 hW=>?_
 rw[←hW] at hB0 hR0
 have hz0:W0.heap.size=w.heap.size+5:=by rw[hW];simp
 clear hW
 refine (Check_walk G (.slice a G.n cap) W0 ((HG.out.below hB0).mono (by omega)) (by omega)).mono ?_
 rintro e W1 ⟨rfl,hb1⟩
 rw[e7]
 have hR1:=hR0.kept (za6 hb1 (Nat.le_refl _) none)
 have hB1:=za7 hB0 hb1
 have hz1:=hb1.size
 clear hR0 hB0 hb1 e7
 have HR1:=Lib.hid hR1
 obtain⟨c0,p0,p1,p2,p3,-,-,-,-,-,-⟩:=hR1
 go_wp2_with (go_at_call 82;(with_reducible refine (HV.out _).mono ?_);rintro e W2 ⟨rfl,hb2⟩;have HR2:=Lib.hid (HR1.out.kept (za6 hb2 (Nat.le_refl _) none));have hB2:=za7 hB1 hb2;have hz2:=hb2.size;clear hb2;replace c0:=HR2.out.c0;replace p0:=HR2.out.p0;replace p1:=HR2.out.p1;replace p2:=HR2.out.p2;replace p3:=HR2.out.p3;have c0a:=za4 c0)
 have K126:∀W,Calls Try.prog 126 #[.agg #[.slice a G.n cap],.agg #[.int .i64 (t:Int),.int .i64 (s.2.1:Int),.int .i64 (s.2.2.1:Int),.int .i64 (s.2.2.2.1:Int),.int .i64 (s.2.2.2.2:Int)],.int .i64 2] W fun e w'=>
   e=.returned (.func (.func 131) #[] #[.pointer (some ⟨W.heap.size+1,0,none⟩),.pointer (some ⟨W.heap.size,0,none⟩),.pointer (some ⟨W.heap.size+2,0,none⟩)]) ∧
   w'=((W.alloc (.cells #[.slice a G.n cap] 24)).alloc (.cells (zb6 s) 160)).alloc (.cells #[.int .i64 2] 3):=fun W=>by rw[HT.out];exact walkIter_walk a G.n cap s 2 W
 refine (K126 _).mono ?_
 rintro e W3 ⟨rfl,hW3⟩
 have h3:W2.grownBy W3 none∧W3.heap.size=W2.heap.size+4∧C5 W3 W2.heap.size s∧C5 W3 (W2.heap.size+2) s∧W3.cell? ⟨W2.heap.size+1,0,none⟩=some (.slice a G.n cap)∧W3.cell? ⟨W2.heap.size+3,0,none⟩=some (.int .i64 2):=by
  have g1:=World.grownBy_alloc W2 (.cells #[.int .i64 (t:Int),.int .i64 (s.2.1:Int),.int .i64 (s.2.2.1:Int),.int .i64 (s.2.2.2.1:Int),.int .i64 (s.2.2.2.2:Int)] 160) none
  have f1:C5 (W2.alloc (.cells #[.int .i64 (t:Int),.int .i64 (s.2.1:Int),.int .i64 (s.2.2.1:Int),.int .i64 (s.2.2.2.1:Int),.int .i64 (s.2.2.2.2:Int)] 160)) W2.heap.size s:=by rw[HT.out];exact C5.new W2 s 160
  have g2:=World.grownBy_alloc (W2.alloc (.cells #[.int .i64 (t:Int),.int .i64 (s.2.1:Int),.int .i64 (s.2.2.1:Int),.int .i64 (s.2.2.2.1:Int),.int .i64 (s.2.2.2.2:Int)] 160)) (.cells #[.slice a G.n cap] 24) none
  have g3:=World.grownBy_alloc ((W2.alloc (.cells #[.int .i64 (t:Int),.int .i64 (s.2.1:Int),.int .i64 (s.2.2.1:Int),.int .i64 (s.2.2.2.1:Int),.int .i64 (s.2.2.2.2:Int)] 160)).alloc (.cells #[.slice a G.n cap] 24)) (.cells (zb6 s) 160) none
  have f3:=C5.new ((W2.alloc (.cells #[.int .i64 (t:Int),.int .i64 (s.2.1:Int),.int .i64 (s.2.2.1:Int),.int .i64 (s.2.2.2.1:Int),.int .i64 (s.2.2.2.2:Int)] 160)).alloc (.cells #[.slice a G.n cap] 24)) s 160
  have g4:=World.grownBy_alloc (((W2.alloc (.cells #[.int .i64 (t:Int),.int .i64 (s.2.1:Int),.int .i64 (s.2.2.1:Int),.int .i64 (s.2.2.2.1:Int),.int .i64 (s.2.2.2.2:Int)] 160)).alloc (.cells #[.slice a G.n cap] 24)).alloc (.cells (zb6 s) 160)) (.cells #[.int .i64 2] 3) none
  simp only[World.size_alloc] at f3
  rw[hW3]
  refine⟨za2 g1 (za2 g2 (za2 g3 g4)),by simp,((f1.kept g2 (by simp)).kept g3 (by simp)).kept g4 (by simp),f3.kept g4 (by simp),?_,by simp[go_sem]⟩
  exact g4.cell (g3.cell (by simp[go_sem]) (by simp)) (by simp)
 obtain⟨g3,hz3,f0,f2,gc,lc⟩:=h3
 have HR3:=Lib.hid (HR2.out.kept g3)
 have hB3:Below w.heap.size w W3:=hB2.grown g3 hB2.size (fun k hk=>by cases hk)
 clear hW3 c0 p0 p1 p2 p3 c0a K126 hB1 g3 HR1
 have H3:=Hd5 f0 f2 gc lc hB3
 clear f0 f2 gc lc hB3
 generalize hN:w.heap.size=N at *
 generalize hF:W2.heap.size=F at *
 simp only[World.size_alloc,hF]
 go_wp2
 refine act_named fun A hA=>?_
 refine (wpIn_wide (n:=6)).1 ?_
 have hRW:N+1+1<W3.heap.size:=by omega
 have hK4:N+1+1+1+1<W3.heap.size:=by omega
 have hnn:∀i,i≠N+1+1→zc3 (N+1+1) W3 i:=fun i hi=>⟨hi,fun v hv=>by rw[HR3.out.c2] at hv;cases hv;simp[Value.ownBlock]⟩
 have hfr:FrR (N+1+1) W3:=fun v hv=>by rw[HR3.out.c2] at hv;cases hv;simp[Value.ownBlock]
 obtain⟨k0,hk0,_,hkk⟩:=itr_ends HS.out.1 (.inl ⟨rfl,rfl⟩) HS.out.2
 have hM:∀k,(∀i,i<k→itr G 2 s i≠none)→(∀i,0<i→(pth G 2 s k)[i]?≠some s)→k≤k0:=fun k h1 h2=>by
  rcases Nat.lt_or_ge k0 k with h | h
  ·rcases hkk with e | e
   ·exact absurd e (h1 k0 h)
   ·exact absurd (by rw[pth_get h1 k0 h,e]) (h2 k0 hk0)
  ·exact h
 have hRI:=ring_iter HS.out.1 (.inl ⟨rfl,rfl⟩) HS.out.2 5 (by omega) (.slice a G.n cap) W3 N (F+2) (F+1) (F+3) (N+1+1) (by omega) (HG.out.below H3.out.2.2.2.2) H3.out.2.1 H3.out.2.2.1 H3.out.2.2.2.1 (hnn _ (by omega)) (hnn _ (by omega)) hRW hfr k0 (noRet s) hM
 have HRI:=Lib.hid hRI
 have hWN:N≤w.heap.size:=by omega
 clear hRI hM hkk
 refine zg4 (by omega) (gf:=131) (lb:=#[.pointer (some ⟨F+2,0,none⟩),.pointer (some ⟨F+1,0,none⟩),.pointer (some ⟨F+3,0,none⟩)]) (by rw[hA];rfl) (enters_of Try.func131 (by kernel_rfl) rfl) HRI.out (fun _ h=>h.elim) Spare.trans (fun W l r r' hl h=>spare_put (by omega) h) (Below.refl _ _) (fun _=>rfl)
  (RG W3 (N+1+1) (noRet s)) (RX w N W3.heap.size s) (fun pre W h=>h.lim) (RG.own hRW) (RX.own hK4) (RG.abides hRW) (RX.abides hK4)
  ⟨zd2 _ _,⟨_,HR3.out.c2,World.ownsRow_nil _ _ _ _⟩,HR3.out.f2,fun i hi=>by simp⟩ (fun x a' W=>RVar A 37 10 W3.heap.size x a' W) (fun x a'=>RVar.own) ?assign ?body ?done ?stop
 case assign=>
  rintro l pre x W K hI hK
  have HK:=Lib.hid hK;clear hK
  have HI:=Lib.hid hI;clear hI
  subst hA
  unfold encR at *
  gi_wp2
  have hs:=HI.out.g.size
  have hal:=World.grownBy_alloc W (.cells (zb6 x) 160) none
  have hRl:N+1+1<W.heap.size:=by omega
  exact HK.out _ _ (zg2 ((Below.refl _ W).alloc (Nat.le_refl _) _)) (spare_new hal hRl (by omega)) (HI.out.kept hRW hal (fun r e=>by cases e)) ⟨W.heap.size,C5.new W x 160,hs,rfl⟩
 case body=>
  rintro l pre x a' W hl hI ⟨b10,hc,hb10,rfl⟩ hNb
  have HI:=Lib.hid hI
  obtain⟨v,hv,ho⟩:=hI.v
  obtain⟨ga,cp,rfl⟩:=za8 ho
  have hvf:=hI.f
  have hF:C5 W F s:=H3.out.1.kept hI.g (by simp;omega)
  have hWs:=hI.g.size
  have hE:=run_equal_ring
  have hrq:=ring_eq x s
  have r3:=hI.g.cell HR3.out.c3 (by simp<;>omega)
  have r4:=hI.g.cell HR3.out.c4 (by simp<;>omega)
  have s3:=(hI.g.frozen_far ⟨N+1+1+1,0,none⟩ (by show N+1+1+1<_;omega) (by simp<;>omega)).trans HR3.out.f3
  have s4:=(hI.g.frozen_far ⟨N+1+1+1+1,0,none⟩ (by show N+1+1+1+1<_;omega) (by simp<;>omega)).trans HR3.out.f4
  obtain⟨len,hlen⟩:∃n,n=pre.length:=⟨_,rfl⟩
  have hv':=hv
  rw[←hlen] at hv' hNb
  have HW5:=Hd3 hv ho hlen
  obtain⟨c0,c1,c2,c3,c4⟩:=hc
  obtain⟨f0,f1,f2,f3,f4⟩:=hF
  have hC:=Lib.hid (show C5 W b10 x from⟨c0,c1,c2,c3,c4⟩)
  have hlb:len≤256000:=by omega
  subst hA
  clear hI hv ho hlen hnn hfr
  by_cases hcl:0<len∧x=s
  ·obtain⟨hl0,hxs⟩:=hcl
   have hd:decide (0<len)=true:=by simpa using hl0
   subst hxs
   clear hrq
   have hl0':=Lib.hid hl0;clear hl0
   gi_wp2
   obtain⟨hv2,ho2,rfl⟩:=HW5.out
   rw[←hz3]
   have g1:=za1 W (N+1+1) 0 (.slice ga pre.length cp)
   have g2:=za1 (W.setCell ⟨N+1+1,0,none⟩ (.slice ga pre.length cp)) (N+1+1+1) 0 (.bool true)
   have g3:=za1 ((W.setCell ⟨N+1+1,0,none⟩ (.slice ga pre.length cp)).setCell ⟨N+1+1+1,0,none⟩ (.bool true)) (N+1+1+1+1) 0 (.int .i64 0)
   have ow:∀b,b<W3.heap.size→((Value.slice ga pre.length cp).ownBlock=none∨(Value.slice ga pre.length cp).ownBlock≠some b):=fun b hb=>by
    cases hq:(Value.slice ga pre.length cp).ownBlock with
    | none=>exact .inl rfl
    | some j=>exact .inr (by have:=(ho2.lt j hq).1;simp;omega)
   have hBW:Below N w W:=H3.out.2.2.2.2.grown HI.out.g (by omega) (fun k e=>by cases e;omega)
   refine⟨zd1 (zd1 (zd1 (KeepsFrom.refl _ _) _ _) _ _) _ _,⟨pre,_,rfl,hl0'.out,HI.out.lim,g3.cell (g2.cell (World.cell?_setCell_same _ _ _ hv2) (by simp)) (by simp<;>omega),((ho2.kept g1 (ow _ (by omega))).kept g2 (ow _ (by omega))).kept g3 (ow _ (by omega))⟩,?_,?_,?_⟩
   ·exact ((hBW.setCell (by show N≤N+1+1;omega) _).setCell (by show N≤N+1+1+1;omega) _).setCell (by show N≤N+1+1+1+1;omega) _
   ·exact g3.cell (World.cell?_setCell_same _ _ _ (g1.cell r3 (by simp))) (by simp)
   ·exact World.cell?_setCell_same _ _ _ (g2.cell (g1.cell r4 (by simp;omega)) (by simp))
  ·have hor:(len=0)∨(0<len∧x≠s):=by
    rcases Nat.eq_zero_or_pos len with h | h
    ·exact .inl h
    ·exact .inr ⟨h,fun e=>hcl ⟨h,e⟩⟩
   clear hcl
   obtain⟨i0,hi0,hz0,hz1,hz2⟩:=info_parts info160
   have hxw:0<len→x≠s:=fun h=>hor.elim (fun e=>by omega) (fun e=>e.2)
   have HX:=Lib.hid hxw;clear hxw
   have hal:=World.grownBy_alloc W (.cells (zb6 x) 160) none
   have hva:=hal.cell hv' (by simp)
   have hRl:N+1+1<W.heap.size:=by omega
   have hfa:=(hal.frozen_far ⟨N+1+1,0,none⟩ hRl (by simp)).trans hvf
   have hne1:some (N+1+1)≠(Value.slice ga len cp).ownBlock:=fun e=>by
    have h1:=HW5.out.2.1.lt
    rw[←HW5.out.2.2] at h1
    have:=(h1 _ e.symm).1
    omega
   have hown:(W.alloc (.cells (zb6 x) 160)).ownsRow W3.heap.size 160 5 (.slice ga len cp) len (zg6 pre):=by rw[HW5.out.2.2];exact HW5.out.2.1.alloc _
   have HY:=Hd5 hal hva hfa hne1 hown
   clear hown
   clear hal hva hfa hne1 r3 r4 s3 s4
   rcases hor with h0 | ⟨hl0,hne⟩
   ·have hd:decide (0<len)=false:=by simpa using h0
    have H0:=Lib.hid h0;clear h0 hrq
    gi_wp2_with (refine zf3 _ rfl (.tmp 47) (.tmp 49) 157 rfl W3.heap.size 160 i0 _ 5 40 und157 hi0 hz0 hz1 hz2 rfl (by omega) (.slice ga len cp) len _ rfl HY.out.2.2.2.2 ⟨W.heap.size,0,none⟩ 1 1 (zb6 x).toList rfl rfl (World.news_of_block (cs:=zb6 x) (MapKept.heap_alloc W _).1) (by simp[Value.oneCell',zb6]) (by omega) (by unfold maxLen;omega) (by omega) (by simp;omega) (W.heap.size+1) (by simp) ?_;intro g cap w1 h1 h2 h3 h4;have k1:=h2.cell HY.out.2.1 HY.out.2.2.2.1;have k2:=(h2.frozen_far ⟨N+1+1,0,none⟩ (za0 HY.out.2.1) HY.out.2.2.2.1).trans HY.out.2.2.1;have HA:=Hd4 h1 h2 h3 h4;clear h1 h2 h3 h4)
    obtain⟨hv2,ho2,rfl⟩:=HW5.out
    have hp:=RG.push (N:=N) hRW (by omega) HI.out hv2 (HI.out.lim.push HX.out) HA.out.1 HA.out.2.1 HA.out.2.2.1 HA.out.2.2.2
    rw[hz3] at hp
    exact hp
   ·have hd:decide (0<len)=true:=by simpa using hl0
    rw[decide_eq_false hne] at hrq
    have H0:=Hd2 hl0 hne;clear hl0 hne
    gi_wp2_with (refine zf3 _ rfl (.tmp 47) (.tmp 49) 157 rfl W3.heap.size 160 i0 _ 5 40 und157 hi0 hz0 hz1 hz2 rfl (by omega) (.slice ga len cp) len _ rfl HY.out.2.2.2.2 ⟨W.heap.size,0,none⟩ 1 1 (zb6 x).toList rfl rfl (World.news_of_block (cs:=zb6 x) (MapKept.heap_alloc W _).1) (by simp[Value.oneCell',zb6]) (by omega) (by unfold maxLen;omega) (by omega) (by simp;omega) (W.heap.size+1) (by simp) ?_;intro g cap w1 h1 h2 h3 h4;have k1:=h2.cell HY.out.2.1 HY.out.2.2.2.1;have k2:=(h2.frozen_far ⟨N+1+1,0,none⟩ (za0 HY.out.2.1) HY.out.2.2.2.1).trans HY.out.2.2.1;have HA:=Hd4 h1 h2 h3 h4;clear h1 h2 h3 h4)
    obtain⟨hv2,ho2,rfl⟩:=HW5.out
    have hp:=RG.push (N:=N) hRW (by omega) HI.out hv2 (HI.out.lim.push HX.out) HA.out.1 HA.out.2.1 HA.out.2.2.1 HA.out.2.2.2
    rw[hz3] at hp
    exact hp
 case done=>
  rintro D xs W hD ⟨k,hall,hnone,rfl⟩ hI hK
  have hF:C5 W F s:=H3.out.1.kept hI.g (by simp;omega)
  have c0:=hI.g.cell HR3.out.c0 (by simp<;>omega)
  have HI:=Hd5 hI hall hnone hK hF
  obtain⟨f0,f1,f2,f3,f4⟩:=hF
  have c0a:=za4 c0
  have f0a:=za4 f0
  have f1a:=za4 f1
  have f2a:=za4 f2
  have f3a:=za4 f3
  have f4a:=za4 f4
  have hWs:=hI.g.size
  clear hI hall hnone hK hnn hfr
  subst hA
  go_wp2_with fail
  have K3:∀W,Calls Try.prog 126 #[.agg #[.slice a G.n cap],.agg #[.int .i64 (s.1:Int),.int .i64 (s.2.1:Int),.int .i64 (s.2.2.1:Int),.int .i64 (s.2.2.2.1:Int),.int .i64 (s.2.2.2.2:Int)],.int .i64 3] W fun e w'=>
   e=.returned (.func (.func 131) #[] #[.pointer (some ⟨W.heap.size+1,0,none⟩),.pointer (some ⟨W.heap.size,0,none⟩),.pointer (some ⟨W.heap.size+2,0,none⟩)]) ∧
   w'=((W.alloc (.cells #[.slice a G.n cap] 24)).alloc (.cells (zb6 s) 160)).alloc (.cells #[.int .i64 3] 3):=fun W=>walkIter_walk a G.n cap s 3 W
  refine (K3 _).mono ?_
  rintro e W4 ⟨rfl,hW4⟩
  have h4:=walk126_facts _ a G.n cap s 3 hW4
  have gF:=World.grownBy_alloc W (.cells (zb6 s) 160) none
  have cF:=C5.new W s 160
  have fF:∀o,(W.alloc (.cells (zb6 s) 160)).frozen? ⟨W.heap.size,o,none⟩=false:=fun o=>by simp[go_sem]
  obtain⟨g4,z4,q1,q2,q3⟩:=h4
  rw[World.size_alloc] at z4 q1 q2 q3
  have gA:W.grownBy W4 none:=za2 gF g4
  have cS:=cF.kept g4 (by simp)
  have fS:∀o,W4.frozen? ⟨W.heap.size,o,none⟩=false:=fun o=>(g4.frozen_far ⟨W.heap.size,o,none⟩ (by simp) (by simp)).trans (fF o)
  have HI4:=HI.out.1.kept hRW gA (fun r e=>by cases e)
  have hD4:W4.heap[D]?=some (.deferred (some [])):=(gA.block D (Array.getElem?_eq_some_iff.1 HI.out.2.2.2.1).1 (by simp)).trans HI.out.2.2.2.1
  have hB4:Below N w W4:=H3.out.2.2.2.2.grown HI4.g (by omega) (fun k e=>by cases e;omega)
  have hDl:D<W.heap.size:=(Array.getElem?_eq_some_iff.1 HI.out.2.2.2.1).1
  have Z4:=Lib.hid (show W4.heap.size=W.heap.size+4 by omega)
  have hSW:W.heap.size<W4.heap.size:=by omega
  clear hW4 z4 gF cF fF g4 K3 c0a f0a f1a f2a f3a f4a f0 f1 f2 f3 f4 c0
  generalize hS:W.heap.size=S at *
  obtain⟨j3,_,hj3⟩:=itr_other HS.out.1 (.inl ⟨rfl,rfl⟩) HS.out.2 HI.out.2.2.1
  have hM3:∀k,(∀i,i<k→itr G 3 s i≠none)→True→k≤j3:=fun k h1 _=>by
   rcases Nat.lt_or_ge j3 k with h | h
   ·exact absurd hj3 (h1 j3 h)
   ·exact h
  have hnn4:∀i,i≠S→zc3 S W4 i:=fun i hi=>⟨hi,fun v hv=>by rw[cS.1] at hv;cases hv;simp[Value.ownBlock]⟩
  have hfr4:FrR S W4:=fun v hv=>by rw[cS.1] at hv;cases hv;simp[Value.ownBlock]
  have hRI3:=ring_iter HS.out.1 (.inr ⟨rfl,rfl⟩) HS.out.2 5 (by omega) (.slice a G.n cap) W4 N (S+1+1) (S+1) (S+1+2) S (by omega) (HG.out.below hB4) q1 q2 q3 (hnn4 _ (by omega)) (hnn4 _ (by omega)) hSW hfr4 j3 (fun _=>True) hM3
  have HRI3:=Lib.hid hRI3
  have H4:=Hd5 HI4 hD4 hB4 cS fS
  clear hRI3 hM3 hnn4 hfr4 q1 q2 q3 HI4 hD4 hB4 hj3 cS fS gA
  simp only[World.size_alloc,hS]
  go_wp2
  refine act_named fun A hA=>?_
  refine (wpIn_wide (n:=6)).1 ?_
  refine zg4 (by omega) (gf:=131) (lb:=#[.pointer (some ⟨S+1+1,0,none⟩),.pointer (some ⟨S+1,0,none⟩),.pointer (some ⟨S+1+2,0,none⟩)]) (by rw[hA];rfl) (enters_of Try.func131 (by kernel_rfl) rfl) HRI3.out (fun _ h=>h.elim) Spare.trans (fun W l r r' hl h=>spare_put (by omega) h) (Below.refl _ _) (fun _=>rfl)
   (LS W4 S s) (fun _ _=>False) (fun _ _ _=>trivial) (LS.own hSW) (fun _ _ _ _ h _ _=>h.elim) (LS.abides hSW) (fun _ _ _ _ h _ _=>h.elim)
   ⟨zd2 _ _,H4.out.2.2.2.1,H4.out.2.2.2.2⟩ (fun x a' W=>RVar A 55 12 W4.heap.size x a' W) (fun x a'=>RVar.own) ?assign2 ?body2 ?done2 ?stop2
  case assign2=>
   rintro l pre x W5 K hI hK
   have HK:=Lib.hid hK;clear hK
   have HI5:=Lib.hid hI;clear hI
   subst hA
   unfold encR at *
   gi_wp2
   have hs:=HI5.out.g.size
   have hal:=World.grownBy_alloc W5 (.cells (zb6 x) 160) none
   exact HK.out _ _ (zg2 ((Below.refl _ W5).alloc (Nat.le_refl _) _)) (spare_new hal (by omega) (by omega)) (HI5.out.kept hSW hal (fun r e=>by cases e)) ⟨W5.heap.size,C5.new W5 x 160,hs,rfl⟩
  case body2=>
   rintro l pre x a' W5 hl hI ⟨b12,hc,hb12,rfl⟩ hNb
   have HI5:=Lib.hid hI
   obtain⟨c0,c1,c2,c3,c4⟩:=hc
   obtain⟨d0,d1,d2,d3,d4⟩:=hI.c
   have df:=hI.f
   clear hI
   subst hA
   gi_wp2
   exact HI5.out.set (by omega) hSW x
  case stop2=>
   rintro D2 pre W5 _ _ h _
   exact h.elim
  case done2=>
   rintro D2 xs W5 hD2 ⟨k2,hall2,hnone2,rfl⟩ hI hK2
   obtain⟨hu1,hu2⟩:=start_ends HS.out.1 HS.out.2 hall2 HI.out.2.2.1
   have hcS:=hI.c
   have hfS:=hI.f
   obtain⟨u,hu⟩:∃u,u=lastR s (pth G 3 s k2):=⟨_,rfl⟩
   rw[←hu] at hu1 hu2 hcS
   have HU:=Hd2 hu1 hu2;clear hu1 hu2 hu
   obtain⟨vr,hvr,-⟩:=H4.out.1.v
   have hRS:N+1+1≠S:=by omega
   have g5:=hI.g
   have r2:=g5.cell hvr (by simp;omega)
   have rf2:=(g5.frozen_far ⟨N+1+1,0,none⟩ (za0 hvr) (by simp;omega)).trans H4.out.1.f
   have c0:=g5.cell (H4.out.1.g.cell HR3.out.c0 (by simp<;>omega)) (by simp;omega)
   have r3:=g5.cell (H4.out.1.g.cell HR3.out.c3 (by simp<;>omega)) (by simp;omega)
   have r4:=g5.cell (H4.out.1.g.cell HR3.out.c4 (by simp<;>omega)) (by simp;omega)
   have s3:=(g5.frozen_far ⟨N+1+1+1,0,none⟩ (by show N+1+1+1<_;omega) (by simp;omega)).trans ((H4.out.1.g.frozen_far ⟨N+1+1+1,0,none⟩ (by show N+1+1+1<_;omega) (by simp<;>omega)).trans HR3.out.f3)
   have s4:=(g5.frozen_far ⟨N+1+1+1+1,0,none⟩ (by show N+1+1+1+1<_;omega) (by simp;omega)).trans ((H4.out.1.g.frozen_far ⟨N+1+1+1+1,0,none⟩ (by show N+1+1+1+1<_;omega) (by simp<;>omega)).trans HR3.out.f4)
   have hD5:W5.heap[D]?=some (.deferred (some [])):=(g5.block D (Array.getElem?_eq_some_iff.1 H4.out.2.1).1 (by simp;omega)).trans H4.out.2.1
   have hB5:Below N w W5:=H4.out.2.2.1.grown g5 (by omega) (fun k e=>by cases e;omega)
   have hW5s:=g5.size
   have H5:=Hd8 r3 r4 s3 s4 hD5 hB5 hK2 hcS
   have hsr:=fun v=>za1 W5 (N+1+1) 0 v
   have c0':∀v,(W5.setCell ⟨N+1+1,0,none⟩ v).cell? ⟨N,0,none⟩=some (.slice a G.n cap):=fun v=>(hsr v).cell c0 (by simp<;>omega)
   obtain⟨e0,e1,e2,e3,e4⟩:=hcS
   have e0':∀v,(W5.setCell ⟨N+1+1,0,none⟩ v).cell? ⟨S,0,none⟩=_:=fun v=>(hsr v).cell e0 (by simp;omega)
   have e1':∀v,(W5.setCell ⟨N+1+1,0,none⟩ v).cell? ⟨S,1,none⟩=_:=fun v=>(hsr v).cell e1 (by simp;omega)
   have e2':∀v,(W5.setCell ⟨N+1+1,0,none⟩ v).cell? ⟨S,2,none⟩=_:=fun v=>(hsr v).cell e2 (by simp;omega)
   have e3':∀v,(W5.setCell ⟨N+1+1,0,none⟩ v).cell? ⟨S,3,none⟩=_:=fun v=>(hsr v).cell e3 (by simp;omega)
   have e4':∀v,(W5.setCell ⟨N+1+1,0,none⟩ v).cell? ⟨S,4,none⟩=_:=fun v=>(hsr v).cell e4 (by simp;omega)
   clear hI g5 r3 r4 s3 s4 hD5 hB5 hK2 hvr hsr
   subst hA
   go_wp2_with fail
   have K5:∀W,Calls Try.prog 126 #[.agg #[.slice a G.n cap],.agg #[.int .i64 (u.1:Int),.int .i64 (u.2.1:Int),.int .i64 (u.2.2.1:Int),.int .i64 (u.2.2.2.1:Int),.int .i64 (u.2.2.2.2:Int)],.int .i64 2] W fun e w'=>
    e=.returned (.func (.func 131) #[] #[.pointer (some ⟨W.heap.size+1,0,none⟩),.pointer (some ⟨W.heap.size,0,none⟩),.pointer (some ⟨W.heap.size+2,0,none⟩)]) ∧
    w'=((W.alloc (.cells #[.slice a G.n cap] 24)).alloc (.cells (zb6 u) 160)).alloc (.cells #[.int .i64 2] 3):=fun W=>walkIter_walk a G.n cap u 2 W
   refine (K5 _).mono ?_
   rintro e W6 ⟨rfl,hW6⟩
   obtain⟨g6,z6,q1,q2,q3⟩:=walk126_facts _ a G.n cap u 2 hW6
   rw[World.size_setCell] at z6 q1 q2 q3
   have gS:=za1 W5 (N+1+1) 0 (.slice none 0 0)
   have c6:=g6.cell (World.cell?_setCell_same _ _ _ r2) (by simp)
   have f6:W6.frozen? ⟨N+1+1,0,none⟩=false:=(g6.frozen_far ⟨N+1+1,0,none⟩ (by rw[World.size_setCell];exact za0 r2) (by simp)).trans (by rw[World.frozen?_setCell];exact rf2)
   have hB6:Below N w W6:=(H5.out.2.2.2.2.2.1.setCell (by show N≤N+1+1;omega) _).grown g6 (by rw[World.size_setCell];omega) (fun k e=>by cases e)
   have t3:=g6.cell (gS.cell H5.out.1 (by simp)) (by simp)
   have t4:=g6.cell (gS.cell H5.out.2.1 (by simp<;>omega)) (by simp)
   have u3:W6.frozen? ⟨N+1+1+1,0,none⟩=false:=(g6.frozen_far ⟨N+1+1+1,0,none⟩ (by rw[World.size_setCell];exact za0 H5.out.1) (by simp)).trans (by rw[World.frozen?_setCell];exact H5.out.2.2.1)
   have u4:W6.frozen? ⟨N+1+1+1+1,0,none⟩=false:=(g6.frozen_far ⟨N+1+1+1+1,0,none⟩ (by rw[World.size_setCell];exact za0 H5.out.2.1) (by simp)).trans (by rw[World.frozen?_setCell];exact H5.out.2.2.2.1)
   have hD6:W6.heap[D]?=some (.deferred (some [])):=(g6.block D (by rw[World.size_setCell];exact (Array.getElem?_eq_some_iff.1 H5.out.2.2.2.2.1).1) (by simp)).trans ((gS.block D (Array.getElem?_eq_some_iff.1 H5.out.2.2.2.2.1).1 (by simp<;>omega)).trans H5.out.2.2.2.2.1)
   have hD26:W6.heap[D2]?=some (.deferred (some [])):=(g6.block D2 (by rw[World.size_setCell];exact (Array.getElem?_eq_some_iff.1 H5.out.2.2.2.2.2.2.1).1) (by simp)).trans ((gS.block D2 (Array.getElem?_eq_some_iff.1 H5.out.2.2.2.2.2.2.1).1 (by simp<;>omega)).trans H5.out.2.2.2.2.2.2.1)
   generalize hT:W5.heap.size=T at *
   have hT6:T<W6.heap.size:=by omega
   have Z6:=Lib.hid z6
   have hRW6:N+1+1<W6.heap.size:=by omega
   have hnn6:∀i,i≠N+1+1→zc3 (N+1+1) W6 i:=fun i hi=>⟨hi,fun v hv=>by rw[c6] at hv;cases hv;simp[Value.ownBlock]⟩
   have hfr6:FrR (N+1+1) W6:=fun v hv=>by rw[c6] at hv;cases hv;simp[Value.ownBlock]
   have hM6:∀j,(∀i,i<j→itr G 2 u i≠none)→True→j≤k2+k:=fun j h1 _=>by
    rcases Nat.lt_or_ge (k2+k) j with h | h
    ·exact absurd HU.out.2 (h1 _ h)
    ·exact h
   have hRI6:=ring_iter HS.out.1 (.inl ⟨rfl,rfl⟩) HU.out.1 5 (by omega) (.slice a G.n cap) W6 N (T+1) T (T+2) (N+1+1) (by omega) (HG.out.below hB6) q1 q2 q3 (hnn6 _ (by omega)) (hnn6 _ (by omega)) hRW6 hfr6 (k2+k) (fun _=>True) hM6
   have hkb:k2+k≤600000:=by
    obtain⟨a3,b3,e3⟩:=itr_other HS.out.1 (.inl ⟨rfl,rfl⟩) HS.out.2 HI.out.2.2.1
    obtain⟨a2,b2,e2⟩:=itr_other HS.out.1 (.inr ⟨rfl,rfl⟩) HS.out.2 e3
    have h1:k≤a2:=by
     rcases Nat.lt_or_ge a2 k with h | h
     ·exact absurd e2 (HI.out.2.1 a2 h)
     ·exact h
    have h2:k2≤a3:=by
     rcases Nat.lt_or_ge a3 k2 with h | h
     ·exact absurd e3 (hall2 a3 h)
     ·exact h
    omega
   have HRI6:=Lib.hid hRI6
   have H6:=Hd9 t3 t4 u3 u4 hD6 hD26 hB6 c6 f6
   clear hRI6 hM6 hnn6 hfr6 q1 q2 q3 t3 t4 u3 u4 hD6 hD26 hB6 c6 f6 c0 c0' e0 e1 e2 e3 e4 e0' e1' e2' e3' e4' z6 g6 gS hW6 K5 r2 rf2
   simp only[World.size_setCell,hT]
   go_wp2
   refine act_named fun A hA=>?_
   refine (wpIn_wide (n:=6)).1 ?_
   refine zg4 (by omega) (gf:=131) (lb:=#[.pointer (some ⟨T+1,0,none⟩),.pointer (some ⟨T,0,none⟩),.pointer (some ⟨T+2,0,none⟩)]) (by rw[hA];rfl) (enters_of Try.func131 (by kernel_rfl) rfl) HRI6.out (fun _ h=>h.elim) Spare.trans (fun W l r r' hl h=>spare_put (by omega) h) (Below.refl _ _) (fun _=>rfl)
    (RG W6 (N+1+1) (fun _=>True)) (fun _ _=>False) (fun _ _ _=>trivial) (RG.own hRW6) (fun _ _ _ _ h _ _=>h.elim) (RG.abides hRW6) (fun _ _ _ _ h _ _=>h.elim)
    ⟨zd2 _ _,⟨_,H6.out.2.2.2.2.2.2.2.1,World.ownsRow_nil _ _ _ _⟩,H6.out.2.2.2.2.2.2.2.2,trivial⟩ (fun x a' W=>RVar A 60 13 W6.heap.size x a' W) (fun x a'=>RVar.own) ?assign3 ?body3 ?done3 ?stop3
   case assign3=>
    rintro l pre x W7 K hI hK
    have HK:=Lib.hid hK;clear hK
    have HI7:=Lib.hid hI;clear hI
    subst hA
    unfold encR at *
    gi_wp2
    have hs:=HI7.out.g.size
    have hal:=World.grownBy_alloc W7 (.cells (zb6 x) 160) none
    exact HK.out _ _ (zg2 ((Below.refl _ W7).alloc (Nat.le_refl _) _)) (spare_new hal (by omega) (by omega)) (HI7.out.kept hRW6 hal (fun r e=>by cases e)) ⟨W7.heap.size,C5.new W7 x 160,hs,rfl⟩
   case stop3=>
    rintro D3 pre W7 _ _ h _
    exact h.elim
   case body3=>
    rintro l pre x a' W7 hl hI ⟨b13,hc,hb13,rfl⟩ hNb
    have HI7:=Lib.hid hI
    obtain⟨v,hv,ho⟩:=hI.v
    obtain⟨ga,cp,rfl⟩:=za8 ho
    have hvf:=hI.f
    have hW7s:=hI.g.size
    obtain⟨len,hlen⟩:∃n,n=pre.length:=⟨_,rfl⟩
    have hv':=hv
    rw[←hlen] at hv' hNb
    obtain⟨c0,c1,c2,c3,c4⟩:=hc
    have hlb:len≤600000:=by omega
    obtain⟨i0,hi0,hz0,hz1,hz2⟩:=info_parts info160
    have hal:=World.grownBy_alloc W7 (.cells (zb6 x) 160) none
    have hva:=hal.cell hv' (by simp)
    have hRl:N+1+1<W7.heap.size:=by omega
    have hfa:=(hal.frozen_far ⟨N+1+1,0,none⟩ hRl (by simp)).trans hvf
    have hne1:some (N+1+1)≠(Value.slice ga len cp).ownBlock:=fun e=>by
     have h1:=ho.lt
     rw[←hlen] at h1
     have:=(h1 _ e.symm).1
     omega
    have hown:(W7.alloc (.cells (zb6 x) 160)).ownsRow W6.heap.size 160 5 (.slice ga len cp) len (zg6 pre):=by rw[hlen];exact ho.alloc _
    have HY:=Hd5 hal hva hfa hne1 hown
    have HW7:=Hd2 hv hlen
    clear hown hal hva hfa hne1 hI hv ho hlen
    subst hA
    gi_wp2_with (refine zf3 _ rfl (.tmp 61) (.tmp 63) 157 rfl W6.heap.size 160 i0 _ 5 40 und157 hi0 hz0 hz1 hz2 rfl (by omega) (.slice ga len cp) len _ rfl HY.out.2.2.2.2 ⟨W7.heap.size,0,none⟩ 1 1 (zb6 x).toList rfl rfl (World.news_of_block (cs:=zb6 x) (MapKept.heap_alloc W7 _).1) (by simp[Value.oneCell',zb6]) (by omega) (by unfold maxLen;omega) (by omega) (by simp;omega) (W7.heap.size+1) (by simp) ?_;intro g cap w1 h1 h2 h3 h4;have k1:=h2.cell HY.out.2.1 HY.out.2.2.2.1;have k2:=(h2.frozen_far ⟨N+1+1,0,none⟩ (za0 HY.out.2.1) HY.out.2.2.2.1).trans HY.out.2.2.1;have HA:=Hd4 h1 h2 h3 h4;clear h1 h2 h3 h4)
    obtain⟨hv2,rfl⟩:=HW7.out
    exact RG.push (N:=N) hRW6 (by omega) HI7.out hv2 trivial HA.out.1 HA.out.2.1 HA.out.2.2.1 HA.out.2.2.2
   case done3=>
    rintro D3 xs W7 hD3 _ hI hK3
    obtain⟨v,hv,ho⟩:=hI.v
    obtain⟨ga,cp,rfl⟩:=za8 ho
    have hvf:=hI.f
    have g7:=hI.g
    have r3:=g7.cell H6.out.1 (by simp)
    have r4:=g7.cell H6.out.2.1 (by simp<;>omega)
    have s3:=(g7.frozen_far ⟨N+1+1+1,0,none⟩ (za0 H6.out.1) (by simp)).trans H6.out.2.2.1
    have s4:=(g7.frozen_far ⟨N+1+1+1+1,0,none⟩ (za0 H6.out.2.1) (by simp<;>omega)).trans H6.out.2.2.2.1
    have hD27:W7.heap[D2]?=some (.deferred (some [])):=(g7.block D2 (Array.getElem?_eq_some_iff.1 H6.out.2.2.2.2.2.1).1 (by simp<;>omega)).trans H6.out.2.2.2.2.2.1
    have hD7:W7.heap[D]?=some (.deferred (some [])):=(g7.block D (Array.getElem?_eq_some_iff.1 H6.out.2.2.2.2.1).1 (by simp<;>omega)).trans H6.out.2.2.2.2.1
    have hB7:Below N w W7:=H6.out.2.2.2.2.2.2.1.grown g7 (by omega) (fun k e=>by cases e;omega)
    have hD2l:=(Array.getElem?_eq_some_iff.1 H6.out.2.2.2.2.2.1).1
    have HX:=Hd5 hD27 hD7 hB7 hK3 ho
    clear hI g7 hD27 hD7 hB7 hK3 ho
    subst hA
    go_wp2
    have q1:=za1 W7 (N+1+1) 0 (.slice ga xs.length cp)
    have q2:=za1 (W7.setCell ⟨N+1+1,0,none⟩ (.slice ga xs.length cp)) (N+1+1+1) 0 (.bool false)
    have q3:=za1 ((W7.setCell ⟨N+1+1,0,none⟩ (.slice ga xs.length cp)).setCell ⟨N+1+1+1,0,none⟩ (.bool false)) (N+1+1+1+1) 0 (.int .i64 0)
    have x2:=q3.cell (q2.cell (World.cell?_setCell_same _ _ _ hv) (by simp)) (by simp<;>omega)
    have x3:=q3.cell (World.cell?_setCell_same _ _ _ (q1.cell r3 (by simp))) (by simp)
    have x4:((((W7.setCell ⟨N+1+1,0,none⟩ (.slice ga xs.length cp)).setCell ⟨N+1+1+1,0,none⟩ (.bool false)).setCell ⟨N+1+1+1+1,0,none⟩ (.int .i64 0))).cell? ⟨N+1+1+1+1,0,none⟩=some (.int .i64 0):=World.cell?_setCell_same _ _ _ (q2.cell (q1.cell r4 (by simp<;>omega)) (by simp))
    have bl:∀i o,N+1+1+1+1<i→W7.heap[i]?=some o→((((W7.setCell ⟨N+1+1,0,none⟩ (.slice ga xs.length cp)).setCell ⟨N+1+1+1,0,none⟩ (.bool false)).setCell ⟨N+1+1+1+1,0,none⟩ (.int .i64 0))).heap[i]?=some o:=fun i o hi h=>by
     have hl:=(Array.getElem?_eq_some_iff.1 h).1
     rw[q3.block i (by simpa using hl) (by simp;omega),q2.block i (by simpa using hl) (by simp;omega),q1.block i hl (by simp;omega)];exact h
    have m3:=bl D3 _ (by omega) HX.out.2.2.2.1
    have m2:=bl D2 _ (by omega) HX.out.1
    have m1:=bl D _ (by omega) HX.out.2.1
    have hBX:Below N w ((((W7.setCell ⟨N+1+1,0,none⟩ (.slice ga xs.length cp)).setCell ⟨N+1+1+1,0,none⟩ (.bool false)).setCell ⟨N+1+1+1+1,0,none⟩ (.int .i64 0))):=
     ((HX.out.2.2.1.setCell (by show N≤N+1+1;omega) _).setCell (by show N≤N+1+1+1;omega) _).setCell (by show N≤N+1+1+1+1;omega) _
    have hX7:=hBX.size
    generalize ((((W7.setCell ⟨N+1+1,0,none⟩ (.slice ga xs.length cp)).setCell ⟨N+1+1+1,0,none⟩ (.bool false)).setCell ⟨N+1+1+1+1,0,none⟩ (.int .i64 0)))=X at *
    clear q1 q2 q3 bl
    have p1:=grownBy_putObj' X D3 (.deferred none)
    have p2:=grownBy_putObj' (X.putObj D3 (.deferred none)) D2 (.deferred none)
    have p3:=grownBy_putObj' ((X.putObj D3 (.deferred none)).putObj D2 (.deferred none)) D (.deferred none)
    have m2':=(World.putObj_heap_other (by omega:D2≠D3):(X.putObj D3 (.deferred none)).heap[D2]?=X.heap[D2]?).trans m2
    have m1':=(World.putObj_heap_other (by omega:D≠D2):((X.putObj D3 (.deferred none)).putObj D2 (.deferred none)).heap[D]?=_).trans ((World.putObj_heap_other (by omega:D≠D3):(X.putObj D3 (.deferred none)).heap[D]?=X.heap[D]?).trans m1)
    have y2:=p3.cell (p2.cell (p1.cell x2 (by simp;omega)) (by simp;omega)) (by simp;omega)
    have y3:=p3.cell (p2.cell (p1.cell x3 (by simp;omega)) (by simp;omega)) (by simp;omega)
    have y4:=p3.cell (p2.cell (p1.cell x4 (by simp;omega)) (by simp;omega)) (by simp;omega)
    have hps:=p1.size
    have hps2:=p2.size
    have hBP:Below N w (((X.putObj D3 (.deferred none)).putObj D2 (.deferred none)).putObj D (.deferred none)):=((hBX.grown p1 (by omega) (fun k e=>by cases e;omega)).grown p2 (by omega) (fun k e=>by cases e;omega)).grown p3 (by omega) (fun k e=>by cases e;omega)
    refine⟨by simp,.inl ⟨_,_,rfl,run_takeDeferred m3,⟨by simp,.inl ⟨_,_,rfl,run_takeDeferred m2',⟨by simp,.inl ⟨_,_,rfl,run_takeDeferred m1',?_⟩⟩⟩⟩⟩⟩
    refine⟨.tuple #[.slice ga xs.length cp,.bool false,.int .i64 0],by simp[results,Try.f117,go_sem,y2,y3,y4],by rw[hN];exact hBP,_,false,rfl,(fun h=>by cases h),fun _=>⟨k,HI.out.2.2.1⟩⟩
 case stop=>
  rintro D pre W hD ⟨k,hall,rfl⟩ hX hK
  obtain⟨pre0,v,hpre,h0,hlim,hv,ho⟩:=hX.ex
  have hkl:k=pre0.length+1:=by
   have:=congrArg List.length hpre
   rw[pth_len hall,List.length_append] at this
   simpa using this
  have hm:itr G 2 s pre0.length=some s:=by
   rw[←pth_get hall pre0.length (by omega),hpre];simp
  have hp0:pre0=pth G 2 s pre0.length:=by
   rw[hkl,pth_succ hm] at hpre
   exact (List.append_inj_left' hpre rfl).symm
  have hmin:∀i,0<i→i<pre0.length→itr G 2 s i≠some s:=fun i hi hil e=>by
   have:=hlim i hi
   rw[hp0,pth_get (fun j hj=>hall j (by omega)) i hil] at this
   exact this e
  have hP:=grownBy_putObj' W D (.deferred none)
  have hDne:∀i,i<W3.heap.size→some i≠some D:=fun i hi e=>by cases e;omega
  have hc2:=hP.cell hv (hDne _ (by simp only;omega))
  have hc3:=hP.cell hX.c3 (hDne _ (by simp only;omega))
  have hc4:=hP.cell hX.c4 (hDne _ (by simp only;omega))
  have hown:=ho.kept hP (by
   rcases ho.2 with ⟨e,_⟩ | ⟨g,cap,cur,e,_,hgg,_⟩
   ·subst e;exact .inl rfl
   ·subst e
    refine .inr (fun q=>?_)
    simp[Value.ownBlock] at q
    subst q
    rw[hK] at hgg;cases hgg)
  have hBW:=hX.b
  have hWs:=hBW.size
  have hBP:Below N w (W.putObj D (.deferred none)):=hBW.grown hP (by omega) (fun r e=>by cases e;omega)
  subst hA
  gi_wp2
  refine⟨by simp,.inl ⟨_,_,rfl,run_takeDeferred hK,?_⟩⟩
  refine⟨.tuple #[v,.bool true,.int .i64 0],by simp[results,Try.f117,go_sem,hc2,hc3,hc4],by rw[hN];exact hBP,v,true,rfl,fun _=>⟨pre0.length,h0,hm,hmin,?_⟩,fun h=>by cases h⟩
  rw[←congrArg zg6 hp0]
  exact ownsRow_lower hown (by omega)
end
end Go.Proofs.Ytlckpgahijlmoaa
