/- cover's Image, exact. -/
import Derived.Test.YtlckpgahijlmoaaQ42
import Derived.Test.YtlckpgahijlmoaaQ20
import Derived.Test.YtlckpgahijlmoaaQ39
import Derived.Test.YtlckpgahijlmoaaQ37
set_option maxRecDepth 100000
set_option maxHeartbeats 8000000
namespace Go.Proofs.Ytlckpgahijlmoaa
section
open Go.RowKit Go.Shelf Go.Maps
def orI (G:Gl):Int:=if askI G=0 then (if 500<G.n then 2 else 0) else askI G
theorem enter_ask {G:Gl}{c:Int}(h:EnterErr G c):askI G=c:=by
 rcases h with ⟨h1,rfl⟩ | ⟨h1,⟨i,hi,hr⟩,rfl⟩ | ⟨h1,h2,rfl⟩
 ·unfold askI;rw[h1];rfl
 ·unfold askI;rw[h1,revB_true hi hr];rfl
 ·exact askI_zero.2 ⟨h1,h2⟩
def OrA (G:Gl)(e:Ending)(w':World):Prop:=∃s pv,e=.returned (.tuple #[.agg #[.int .i64 s,pv],.int .i64 (orI G)]) ∧
 ((orI G≠0∧s=0∧pv=.slice none 0 0)∨(orI G=0∧s=2∧LLs w'.heap.size w' pv (nF G) (fun _=>2) (orF G)))
theorem OrAns.ora {G:Gl}{e:Ending}{w':World}(h:OrAns G e w'):OrA G e w':=by
 obtain⟨c,sh,pv,rfl,⟨h0,h1,rfl,rfl⟩ | ⟨h1,h2,rfl,rfl,rfl⟩ | ⟨h1,h2,rfl,rfl,h3⟩⟩:=h
 ·have e:=enter_ask h1
  have:orI G=c:=by unfold orI;rw[e,if_neg h0]
  exact⟨0,_,by rw[this],.inl ⟨by rw[this];exact h0,rfl,rfl⟩⟩
 ·have:orI G=2:=by unfold orI;rw[if_pos (enter_ask h1),if_pos h2]
  exact⟨0,_,by rw[this],.inl ⟨by rw[this];omega,rfl,rfl⟩⟩
 ·have:orI G=0:=by unfold orI;rw[if_pos (enter_ask h1),if_neg (by omega)]
  exact⟨2,_,by rw[this],.inr ⟨this,rfl,h3⟩⟩
def IWo (WB W:World)(D:Nat)(G:Gl)(k:Nat):Prop:=
 ∃F ds uv xs,(∀j,j<clsN G k→∀i,i<2→F j i=orF G j i)∧CW WB W D 2 (clsN G k) F ds uv xs
theorem IWo.bel {WB W:World}{D k:Nat}{G:Gl}(h:IWo WB W D G k):Below D WB W:=by
 obtain⟨F,ds,uv,xs,-,h⟩:=h;exact h.bel
theorem IWo.kept {WB W W':World}{D k:Nat}{G:Gl}(h:IWo WB W D G k)(hg:W.grownBy W' none):IWo WB W' D G k:=by
 obtain⟨F,ds,uv,xs,e,h⟩:=h;exact⟨F,ds,uv,xs,e,h.kept hg⟩
theorem IWo.skip {WB W:World}{D k:Nat}{G:Gl}(hok:za9 G=true)(hk:k<4*G.n)(hf:¬isF G k)(h:IWo WB W D G k):IWo WB W D G (k+1):=by
 unfold IWo at h ⊢
 rw[clsN_succ hok hk,if_neg hf];exact h
theorem or_num {G:Gl}(hok:za9 G=true){k:Nat}(hk:k<4*G.n)(hf:isF G k)(i:Nat):orF G (clsN G k) i=if 0≤G.tet k∧SignR (G.pm k)=1 then 1-(i:Int) else i:=by
 rw[←(clsN_first hok hk).2 hf]
 unfold orF
 by_cases h:0≤G.tet k∧SignR (G.pm k)=1
 ·rw[if_pos ((tc_at hok hk hf).2 h),if_pos h]
 ·rw[if_neg (fun e=>h ((tc_at hok hk hf).1 e)),if_neg h]
theorem row2 (W:World)(a b:Int):zb7 (W.alloc (.cells #[.int .i64 a,.int .i64 b] 3)) W.heap.size 2 (fun i=>if i=0 then a else b):=
 ⟨_,heap_alloc_new _ _,rfl,fun i hi=>by rcases (show i=0∨i=1 by omega) with rfl | rfl<;>rfl⟩
section
variable (G:Gl)(v:Value)(w:World)(hG:GlAt w.heap.size w v G)(hm:G.n≤9223372036854775807)
include hG hm
theorem rorcov_walk:Calls Try.prog 37 #[.agg #[v]] w fun e w'=>Below w.heap.size w w'∧OrA G e w':=by
 have HG:=Lib.hid hG
 obtain⟨ga,gc,rfl⟩:∃a cap,v=.slice a G.n cap:=by obtain⟨a,_,_,cap,e,_⟩:=hG;exact⟨a,cap,e⟩
 clear hG
 obtain⟨N,hN⟩:∃N,N=w.heap.size:=⟨_,rfl⟩
 have HN:=Lib.hid hN
 go_enter Try.func37,Try.ntmps37
 go_wp2_with fail
 rw[←hN]
 refine zb4 fun W0 hW=>?_
 have h0:IB w W0 N ga G.n gc:=by
  rw[hW,hN];exact⟨by (repeat' (first | assumption | exact Below.refl _ _ | refine za7 ?_ (by assumption) | refine zb2 ?_ _ | refine za5 ?_ | refine zb1 ?_ (by simp<;>omega) _)),by simp[go_sem],by simp[go_sem],by simp[go_sem],by simp[go_sem],by simp[go_sem]⟩
 have at0:=fun W (h:IB w W N ga G.n gc)=>
  have hb:Below w.heap.size w W:=by rw[←HN.out];exact h.bel
  ((HG.out.below hb).mono hb.size:GlAt W.heap.size W (.slice ga G.n gc) G)
 have HAT:=Lib.hid at0
 clear hW hN at0
 have err:∀c:Int,c≠0→orI G=c→∀W,IB w W N ga G.n gc→∀x y,Below w.heap.size w ((W.setCell ⟨N+1,0,none⟩ x).setCell ⟨N+1,1,none⟩ y)∧OrA G (.returned (.tuple #[.agg #[.int .i64 0,.slice none 0 0],.int .i64 c])) ((W.setCell ⟨N+1,0,none⟩ x).setCell ⟨N+1,1,none⟩ y):=fun c hc he W h x y=>
  ⟨by rw[←HN.out];exact (h.bel.setCell (by show N≤N+1;omega) _).setCell (by show N≤N+1;omega) _,0,.slice none 0 0,by rw[he],.inl ⟨by rw[he];exact hc,rfl,rfl⟩⟩
 have HERR:=Lib.hid err
 clear err
 refine (rasked_walk G W0 _ (HAT.out _ h0) hm).mono ?_
 rintro e W1 ⟨rfl,hb1⟩
 have h1:=h0.below hb1
 clear h0 hb1
 rcases Classical.em (¬askI G=0) with hz | hz
 ·obtain⟨c,hc⟩:∃c,c=askI G:=⟨_,rfl⟩
  rw[←hc] at hz ⊢
  have q1:(c !=0)=true:=by simpa using hz
  have hcm:orI G=c:=by unfold orI;rw[if_neg (by rw[←hc];exact hz),hc]
  have HX:=Lib.hid (HERR.out c hz hcm W1 h1)
  obtain⟨-,k0,y0,y1,z0,z1⟩:=h1
  clear hz hc hcm k0
  go_wp2
  exact bodyPost_ret (v:=.tuple #[.agg #[.int .i64 0,.slice none 0 0],.int .i64 c]) (by simp[results,Try.results37,go_sem, *]) rfl (HX.out _ _)
 have hz:=Classical.not_not.1 hz
 rw[hz]
 have hok:=(askI_zero.1 hz).1
 have hn:=zg5 hok
 have HZ:=Hd2 hz hok
 clear hz hok
 have k0:=h1.c0
 obtain⟨d,hd⟩:∃d,d=2*G.n:=⟨_,rfl⟩
 have qd:IntKind.i64.wrap (2*(G.n:Int))=(d:Int):=by rw[IntWalk.i64_in _ (by omega)];omega
 rcases Nat.lt_or_ge 500 G.n with hb | hb
 ·have q2:decide ((1000:Int)<(d:Int))=true:=by simp;omega
  have hcm:orI G=2:=by unfold orI;rw[if_pos HZ.out.1,if_pos hb]
  have HX:=Lib.hid (HERR.out 2 (by omega) hcm W1 h1)
  obtain⟨-,-,y0,y1,z0,z1⟩:=h1
  clear hcm hd
  go_wp2
  exact bodyPost_ret (v:=.tuple #[.agg #[.int .i64 0,.slice none 0 0],.int .i64 2]) (by simp[results,Try.results37,go_sem, *]) rfl (HX.out _ _)
 have q2:decide ((1000:Int)<(d:Int))=false:=by simp;omega
 clear hd
 have H1:=Lib.hid h1
 have h53:=rskeleton_walk G _ W1 (HAT.out _ h1) HZ.out.2
 have H53:=Lib.hid h53
 clear h53 h1
 go_wp2_with fail
 refine H53.out.mono ?_
 rintro e W4 ⟨sv,rfl,hsk,hb4⟩
 obtain⟨va,vc,ea,ec,ta,tc,da,dn,dc,ra,rn,rc,la,ln,lc,rfl,hw4⟩:=hsk.skw
 have h4:=H1.out.below hb4
 have k4:=h4.c0
 have k4a:=za4 k4
 have k4b:=fun o=>za4 (k4a o)
 have H4:=Hd2 h4 hw4
 clear hsk hw4 h4 hb4 H53 k0 H1
 go_wp2
 refine zb3 fun W5 hW5=>?_
 obtain⟨WB,hWB⟩:∃WB,WB=W4.alloc (.cells #[.slice va G.n vc,.slice ea G.n ec,.slice ta G.n tc,.slice da dn dc,.slice ra rn rc,.slice la ln lc] 54):=⟨_,rfl⟩
 obtain⟨D1,hD1⟩:∃D1,D1=W4.heap.size:=⟨_,rfl⟩
 rw[←hD1]
 have hbB:Below W4.heap.size W4 WB:=by rw[hWB];exact (Below.refl _ _).alloc (Nat.le_refl _) _
 have hzB:WB.heap.size=D1+1:=by rw[hWB,hD1];simp
 have hB:IB w WB N ga G.n gc∧SB WB D1 va G.n vc ea G.n ec ta G.n tc da dn dc ra rn rc la ln lc∧SKW W1.heap.size WB.heap.size WB ta G∧WB.heap.size=D1+1:=
  ⟨H4.out.1.below hbB,by rw[hWB];exact SB.made hD1,H4.out.2.below hbB,hzB⟩
 have hI:IWo WB W5 (D1+1) G 0:=by
  refine⟨idF,id,.slice none 0 0,[],fun j hj=>absurd hj (by simp[clsN,cnt]),?_⟩
  have e5:W5=WB.alloc (.cells #[.int .i64 2,.slice none 0 0] 28):=by rw[hW5,hWB]
  rw[e5]
  exact⟨World.ownsRow_nil _ _ _ _,fun j hj=>absurd hj (Nat.not_lt_zero j),fun i j hi=>absurd hi (Nat.not_lt_zero i),by rw[World.cell?_alloc_at _ _ _ _ hzB.symm];rfl,by rw[World.cell?_alloc_at _ _ _ _ hzB.symm];rfl,World.frozen?_alloc_at _ _ _ _ hzB.symm,(Below.refl _ _).alloc (by omega) _⟩
 have HB:=Lib.hid hB
 have HI:=Lib.hid hI
 clear hW5 hWB hD1 hbB hzB hB hI H4 k4 k4a k4b
 go_loopw [30] (fun i wz=>∃t:Nat,t≤G.n∧i=.int .i64 t∧IWo WB wz (D1+1) G (4*t)) (fun i _=>G.n-(intOf i).toNat)
 case atStart=>exact⟨0,by omega,rfl,HI.out⟩
 case round=>
  clear HI
  obtain⟨t,ht,rfl,hI⟩:=hrel
  have HI:=Lib.hid hI
  have later:=fun W (hb:Below (D1+1) WB W)=>
   have hb':Below WB.heap.size WB W:=by rw[HB.out.2.2.2];exact hb
   And.intro (HB.out.1.below hb') (And.intro (HB.out.2.1.bl hb') (HB.out.2.2.1.below hb'))
  have HLT:=Lib.hid later
  clear later
  rcases Nat.lt_or_ge t G.n with htn | htn
  ·have hgl:=HAT.out _ (HLT.out wr hI.bel).1
   obtain⟨_,gb,go,_,hge,hga,hgc⟩:=hgl
   simp only[Value.slice.injEq,true_and] at hge
   obtain⟨hge1,hge2⟩:=hge
   subst hge1 hge2
   obtain⟨rfl,hgN⟩:=hga (by omega)
   have hrow:zb9 wr gb (go+t*20) G t:=ze5 hgc t htn
   have hrg:=hrow.range
   have hrg2:(wr.alloc (.cells (rowA G t) 88)).rangeAt wr.heap.size 0 (rowA G t).toList:=by
    have:zb9 (wr.alloc (.cells (rowA G t) 88)) wr.heap.size 0 G t:=fun j hj=>by rw[Nat.zero_add];exact World.cell?_alloc_at _ _ _ _ rfl
    exact this.range
   have t0:0≤(t:Int):=by omega
   have tn:(t:Int)<(G.n:Int):=by omega
   clear hI hga hgc hrow hgN
   go_wp2_with (first|(refine zb8 rfl 88 (.tmp 33) rfl gb (go+t*20) rfl (rowA G t) _ hrg Try.underlying88 rfl (by kernel_rfl) ?_)|(refine zc2 (w:=wr) rfl 88 (.tmp 8) (.tmp 34) rfl _ (rowA G t) rfl rfl (by kernel_rfl) rfl (zf9 G t) ?_)|(refine zb8 rfl 88 (.tmp 8) rfl wr.heap.size 0 rfl (rowA G t) _ hrg2 Try.underlying88 rfl (by kernel_rfl) ?_))
   refine zb3 fun W6 hW=>?_
   have h6:IWo WB W6 (D1+1) G (4*t):=by rw[hW];exact HI.out.kept (World.grownBy_alloc _ _ _)
   have H6:=Lib.hid h6
   clear h6 hW hrg hrg2 HI
   go_loopw [36] (fun i wz=>∃f:Nat,f≤4∧i=.int .i64 f∧IWo WB wz (D1+1) G (4*t+f)) (fun i _=>4-(intOf i).toNat)
   case atStart=>exact⟨0,by omega,rfl,H6.out⟩
   case round=>
    clear H6
    obtain⟨f,hf,rfl,hI⟩:=hrel
    have HI:=Lib.hid hI
    have HOK:=Lib.hid HZ.out.2
    rcases Nat.lt_or_ge f 4 with hf4 | hf4
    ·have hkk:4*t+f<4*G.n:=by omega
     have hix:=fun w=>ze2 G t f hf4 w
     unfold faceA at hix
     obtain⟨F,ds,uv,xs,hF,hZ⟩:=hI
     obtain⟨ua,uc,rfl⟩:=za8 hZ.own
     obtain⟨-,hsb,b,hta,htri⟩:=HLT.out wr hZ.bel
     obtain⟨rfl,-,-⟩:=hta (by omega)
     have d2:=hsb.d2
     have cx:=htri (4*t+f) hkk
     have d1:=hZ.d1
     have hcf:=clsN_first HOK.out hkk
     have hon:=or_num HOK.out hkk
     have hcb:=zg7 (zb5 G).r4 (4*t+f)
     obtain⟨x,hx⟩:∃x,x=fN G (4*t+f):=⟨_,rfl⟩
     obtain⟨c,hc⟩:∃c,c=clsN G (4*t+f):=⟨_,rfl⟩
     obtain⟨T,hT⟩:∃T,T=G.tet (4*t+f):=⟨_,rfl⟩
     obtain⟨pp,hpp⟩:∃p,p=G.pm (4*t+f):=⟨_,rfl⟩
     rw[show cnt (zb5 G).r4 (4*t+f)=c from hc.symm] at hcb
     rw[←hx] at cx
     rw[←hx,←hc] at hcf
     rw[←hc] at hZ d1
     rw[←hc,←hT,←hpp] at hon
     rw[←hT,←hpp] at hix
     rw[show 4*t+f=t*4+f by omega] at cx
     have HC:=Lib.hid hc
     have HZc:=Hd2 hF hZ
     have f0:0≤(f:Int):=by omega
     have f4:(f:Int)<4:=by omega
     have HD:=Hd3 d1 d2 cx
     clear hsb htri hta hx hc hF hZ hT hpp d1 d2 cx
     go_wp2
     refine zb3 fun Wa hWa=>?_
     obtain⟨E,hE⟩:∃E,E=wr.heap.size:=⟨_,rfl⟩
     rw[←hE]
     have hga:wr.grownBy Wa none:=by rw[hWa];exact World.grownBy_alloc wr _ none
     have d1':Wa.drew.cell? ⟨D1+1,1,none⟩=some (.slice ua c uc):=hga.cell HD.out.1 (by simp)
     have d2':Wa.drew.cell? ⟨D1,2,none⟩=some (.slice (some ⟨b,0,none⟩) G.n tc):=hga.cell HD.out.2.1 (by simp)
     have cx':Wa.drew.cell? ⟨b,t*4+f,none⟩=some (.int .i64 (x:Int)):=hga.cell HD.out.2.2 (by simp)
     have HA0:=Hd3 hga hWa hE
     clear hga hWa hE hix
     by_cases hf1:isF G (4*t+f)
     ·have hxc:=hcf.2 hf1
      subst hxc
      have q5:((x:Int) !=(x:Int))=false:=by simp
      have HF1:=Lib.hid hf1
      replace hon:=hon hf1
      have HON:=Lib.hid hon
      obtain⟨i3,hi3,hz30,hz31,hz32⟩:=info_parts info35
      clear hcf hf1 hon
      refine wp_region_still_lit (by kernel_rfl) (by kernel_rfl) ?_
      repeat (refine wpStill_step (fun K hK=>?_);go_simp;refine hK _ ?_;clear hK K)
      refine wpStill_nil ?_
      clear d1' d2' cx'
      generalize hWc:({ Wa with drawn:=Wa.drawn+1 }:World)=Wc
      have hcc:wr.grownBy Wc none∧(∀o,(Wc.alloc o).cell? ⟨E,0,none⟩=some (.int .i64 T))∧(∀o,(Wc.alloc o).cell? ⟨E,1,none⟩=some (.int .i64 (pp 0)))∧(∀o,(Wc.alloc o).cell? ⟨E,2,none⟩=some (.int .i64 (pp 1)))∧(∀o,(Wc.alloc o).cell? ⟨E,3,none⟩=some (.int .i64 (pp 2)))∧(∀o,(Wc.alloc o).cell? ⟨E,4,none⟩=some (.int .i64 (pp 3))):=by
       have hgc:Wa.grownBy Wc none:=by rw[←hWc];exact zb0 Wa none
       have e:∀i y,(#[Value.int .i64 T,.int .i64 (pp 0),.int .i64 (pp 1),.int .i64 (pp 2),.int .i64 (pp 3)]:Array Value)[i]?=some y→Wc.cell? ⟨E,i,none⟩=some y:=fun i y h=>by
        refine hgc.cell ?_ (by simp)
        rw[HA0.out.2.1];exact (World.cell?_alloc_at _ _ _ _ HA0.out.2.2).trans h
       exact⟨za2 HA0.out.1 hgc,fun o=>za4 (e 0 _ rfl) o,fun o=>za4 (e 1 _ rfl) o,fun o=>za4 (e 2 _ rfl) o,fun o=>za4 (e 3 _ rfl) o,fun o=>za4 (e 4 _ rfl) o⟩
      obtain⟨hcg,e0,e1,e2,e3,e4⟩:=hcc
      have hgA:=za2 hcg (World.grownBy_alloc Wc (.cells #[.int .i64 0,.int .i64 1] 3) none)
      have hrA:=row2 Wc 0 1
      have hPA:wr.heap.size≤Wc.heap.size:=hcg.size
      clear hWc hcg
      rcases Int.lt_or_le T 0 with hT0 | hT0
      ·have q6:decide (0≤T)=false:=by simp;omega
       have hgW:=hgA
       have hPW:=hPA
       have hrW:zb7 (Wc.alloc (.cells #[.int .i64 0,.int .i64 1] 3)) Wc.heap.size 2 (orF G x):=hrA.congr (fun i hi=>by
        rw[HON.out i,if_neg (fun h=>by omega)]
        rcases (show i=0∨i=1 by omega) with rfl | rfl<;>rfl)
       clear hgA hrA hPA
       have hZw:=HZc.out.2.kept hgW
       have d1:=hZw.d1
       have d1a:=za4 d1
       have f1a:∀o,((Wc.alloc (.cells #[.int .i64 0,.int .i64 1] 3)).alloc o).frozen? ⟨D1+1,1,none⟩=false:=fun o=>((World.grownBy_alloc (Wc.alloc (.cells #[.int .i64 0,.int .i64 1] 3)) o none).frozen_far ⟨D1+1,1,none⟩ (za0 d1) (by simp)).trans hZw.f1
       have hDl:=za0 hZw.d0
       simp only[World.size_alloc] at hDl
       have hH2:=Hd6 hZw hrW d1a f1a hgW hPW
       clear hgW hrW hPW hZw d1a f1a
       go_wp2_with (at_builtin;refine (wpList_append_lies _ rfl (.tmp 63) (.tmp 65) 26 rfl (D1+1+1) 35 i3 _ 1 24 und26 hi3 hz30 hz31 hz32 rfl (by omega) (.slice ua x uc) x xs rfl (hH2.out.1.own.alloc _) ⟨Wc.heap.size+1,0,none⟩ 1 1 [.slice (some ⟨Wc.heap.size,0,none⟩) 2 2] rfl rfl (by have:=World.news_of_block (cs:=#[.slice (some ⟨Wc.heap.size,0,none⟩) 2 2]) (MapKept.heap_alloc (Wc.alloc (.cells #[.int .i64 0,.int .i64 1] 3)) (.cells #[.slice (some ⟨Wc.heap.size,0,none⟩) 2 2] 35)).1;simpa using this) (by simp[Value.oneCell']) (by omega) (by unfold maxLen;omega) (by omega) (by simp;omega) (Wc.heap.size+1+1) (by simp) ?_);intro g cp w8 h1 h2 h3 h4;have c1:=h2.cell (hH2.out.2.2.1 _) hH2.out.1.ne;have f1':=(h2.frozen_far ⟨D1+1,1,none⟩ (za0 (hH2.out.2.2.1 _)) hH2.out.1.ne).trans (hH2.out.2.2.2.1 _);have HAP:=Hd3 h1 h2 h3;clear h1 h2 h3 h4)
       have hcn:=clsN_succ HOK.out hkk
       rw[if_pos HF1.out,←HC.out] at hcn
       refine⟨⟨f+1,by omega,by simp,?_⟩,by simp[intOf];omega⟩
       have hpush:=CW.push HZc.out.2 (za2 hH2.out.2.2.2.2.1 (World.grownBy_alloc _ (.cells #[.slice (some ⟨Wc.heap.size,0,none⟩) 2 2] 35) none)) hH2.out.2.2.2.2.2 (za3 hH2.out.2.1 (World.grownBy_alloc _ _ none) (by simp)) HAP.out.1 HAP.out.2.1 (HAP.out.2.2.imp id (fun e=>by simpa using e))
       refine⟨_,_,_,_,fun j hj i hi=>?_,by rw[show 4*t+(f+1)=4*t+f+1 by omega,hcn];exact hpush⟩
       rw[show 4*t+(f+1)=4*t+f+1 by omega,hcn] at hj
       by_cases e:j=x
       ·subst e;simp
       ·simp only[if_neg e]
        exact HZc.out.1 j (by rw[←HC.out];omega) i hi
      ·have q6:decide (0≤T)=true:=by simpa using hT0
       obtain⟨sg,hsg⟩:∃s,s=SignR pp:=⟨_,rfl⟩
       have h47:=fun W=>rsign_walk pp W
       unfold P4 at h47
       rw[←hsg] at h47
       have H47:=Lib.hid h47
       have HSG:=Lib.hid hsg
       have HA:=Hd3 hgA hrA hPA
       clear h47 hsg hgA hrA hPA
       go_wp2_with fail
       refine (H47.out _).mono ?_
       rintro e W5 ⟨rfl,hb5⟩
       have hg5:=za6 hb5 (Nat.le_refl _) none
       have hgW:=za2 HA.out.1 hg5
       have hPW:=HA.out.2.2
       have hr5:=za3 HA.out.2.1 hg5 (by simp)
       clear H47 hb5 hg5 e0 e1 e2 e3 e4
       by_cases hs1:sg=1
       ·have q7:(sg==1)=true:=by simpa using hs1
        have hrW:zb7 (W5.alloc (.cells #[.int .i64 1,.int .i64 0] 3)) W5.heap.size 2 (orF G x):=(row2 W5 1 0).congr (fun i hi=>by
         rw[HON.out i,if_pos ⟨hT0,by rw[←HSG.out,hs1]⟩]
         rcases (show i=0∨i=1 by omega) with rfl | rfl<;>rfl)
        replace hPW:=hgW.size
        replace hgW:=za2 hgW (World.grownBy_alloc W5 (.cells #[.int .i64 1,.int .i64 0] 3) none)
        clear hr5 hs1
        have hZw:=HZc.out.2.kept hgW
        have d1:=hZw.d1
        have d1a:=za4 d1
        have f1a:∀o,((W5.alloc (.cells #[.int .i64 1,.int .i64 0] 3)).alloc o).frozen? ⟨D1+1,1,none⟩=false:=fun o=>((World.grownBy_alloc (W5.alloc (.cells #[.int .i64 1,.int .i64 0] 3)) o none).frozen_far ⟨D1+1,1,none⟩ (za0 d1) (by simp)).trans hZw.f1
        have hDl:=za0 hZw.d0
        simp only[World.size_alloc] at hDl
        have hH2:=Hd6 hZw hrW d1a f1a hgW hPW
        clear hgW hrW hPW hZw d1a f1a
        go_wp2_with (at_builtin;refine (wpList_append_lies _ rfl (.tmp 63) (.tmp 65) 26 rfl (D1+1+1) 35 i3 _ 1 24 und26 hi3 hz30 hz31 hz32 rfl (by omega) (.slice ua x uc) x xs rfl (hH2.out.1.own.alloc _) ⟨W5.heap.size+1,0,none⟩ 1 1 [.slice (some ⟨W5.heap.size,0,none⟩) 2 2] rfl rfl (by have:=World.news_of_block (cs:=#[.slice (some ⟨W5.heap.size,0,none⟩) 2 2]) (MapKept.heap_alloc (W5.alloc (.cells #[.int .i64 1,.int .i64 0] 3)) (.cells #[.slice (some ⟨W5.heap.size,0,none⟩) 2 2] 35)).1;simpa using this) (by simp[Value.oneCell']) (by omega) (by unfold maxLen;omega) (by omega) (by simp;omega) (W5.heap.size+1+1) (by simp) ?_);intro g cp w8 h1 h2 h3 h4;have c1:=h2.cell (hH2.out.2.2.1 _) hH2.out.1.ne;have f1':=(h2.frozen_far ⟨D1+1,1,none⟩ (za0 (hH2.out.2.2.1 _)) hH2.out.1.ne).trans (hH2.out.2.2.2.1 _);have HAP:=Hd3 h1 h2 h3;clear h1 h2 h3 h4)
        have hcn:=clsN_succ HOK.out hkk
        rw[if_pos HF1.out,←HC.out] at hcn
        refine⟨⟨f+1,by omega,by simp,?_⟩,by simp[intOf];omega⟩
        have hpush:=CW.push HZc.out.2 (za2 hH2.out.2.2.2.2.1 (World.grownBy_alloc _ (.cells #[.slice (some ⟨W5.heap.size,0,none⟩) 2 2] 35) none)) hH2.out.2.2.2.2.2 (za3 hH2.out.2.1 (World.grownBy_alloc _ _ none) (by simp)) HAP.out.1 HAP.out.2.1 (HAP.out.2.2.imp id (fun e=>by simpa using e))
        refine⟨_,_,_,_,fun j hj i hi=>?_,by rw[show 4*t+(f+1)=4*t+f+1 by omega,hcn];exact hpush⟩
        rw[show 4*t+(f+1)=4*t+f+1 by omega,hcn] at hj
        by_cases e:j=x
        ·subst e;simp
        ·simp only[if_neg e]
         exact HZc.out.1 j (by rw[←HC.out];omega) i hi
       ·have q7:(sg==1)=false:=by simpa using hs1
        have hrW:zb7 W5 Wc.heap.size 2 (orF G x):=World.rowIs.congr hr5 (fun i hi=>by
         rw[HON.out i,if_neg (fun h=>hs1 (by rw[HSG.out,h.2]))]
         rcases (show i=0∨i=1 by omega) with rfl | rfl<;>rfl)
        clear hr5 hs1
        have hZw:=HZc.out.2.kept hgW
        have d1:=hZw.d1
        have d1a:=za4 d1
        have f1a:∀o,(W5.alloc o).frozen? ⟨D1+1,1,none⟩=false:=fun o=>((World.grownBy_alloc W5 o none).frozen_far ⟨D1+1,1,none⟩ (za0 d1) (by simp)).trans hZw.f1
        have hDl:=za0 hZw.d0
        simp only at hDl
        have hH2:=Hd6 hZw hrW d1a f1a hgW hPW
        clear hgW hrW hPW hZw d1a f1a
        go_wp2_with (at_builtin;refine (wpList_append_lies _ rfl (.tmp 63) (.tmp 65) 26 rfl (D1+1+1) 35 i3 _ 1 24 und26 hi3 hz30 hz31 hz32 rfl (by omega) (.slice ua x uc) x xs rfl (hH2.out.1.own.alloc _) ⟨W5.heap.size,0,none⟩ 1 1 [.slice (some ⟨Wc.heap.size,0,none⟩) 2 2] rfl rfl (by have:=World.news_of_block (cs:=#[.slice (some ⟨Wc.heap.size,0,none⟩) 2 2]) (MapKept.heap_alloc W5 (.cells #[.slice (some ⟨Wc.heap.size,0,none⟩) 2 2] 35)).1;simpa using this) (by simp[Value.oneCell']) (by omega) (by unfold maxLen;omega) (by omega) (by simp;omega) (W5.heap.size+1) (by simp) ?_);intro g cp w8 h1 h2 h3 h4;have c1:=h2.cell (hH2.out.2.2.1 _) hH2.out.1.ne;have f1':=(h2.frozen_far ⟨D1+1,1,none⟩ (za0 (hH2.out.2.2.1 _)) hH2.out.1.ne).trans (hH2.out.2.2.2.1 _);have HAP:=Hd3 h1 h2 h3;clear h1 h2 h3 h4)
        have hcn:=clsN_succ HOK.out hkk
        rw[if_pos HF1.out,←HC.out] at hcn
        refine⟨⟨f+1,by omega,by simp,?_⟩,by simp[intOf];omega⟩
        have hpush:=CW.push HZc.out.2 (za2 hH2.out.2.2.2.2.1 (World.grownBy_alloc _ (.cells #[.slice (some ⟨Wc.heap.size,0,none⟩) 2 2] 35) none)) hH2.out.2.2.2.2.2 (za3 hH2.out.2.1 (World.grownBy_alloc _ _ none) (by simp)) HAP.out.1 HAP.out.2.1 (HAP.out.2.2.imp id (fun e=>by simpa using e))
        refine⟨_,_,_,_,fun j hj i hi=>?_,by rw[show 4*t+(f+1)=4*t+f+1 by omega,hcn];exact hpush⟩
        rw[show 4*t+(f+1)=4*t+f+1 by omega,hcn] at hj
        by_cases e:j=x
        ·subst e;simp
        ·simp only[if_neg e]
         exact HZc.out.1 j (by rw[←HC.out];omega) i hi
     ·have q5:((x:Int) !=(c:Int))=true:=by simp;exact fun e=>hf1 (hcf.1 (by omega))
      have HF1:=Lib.hid hf1
      clear hcf hf1 hon
      refine wp_region_still_lit (by kernel_rfl) (by kernel_rfl) ?_
      repeat (refine wpStill_step (fun K hK=>?_);go_simp;refine hK _ ?_;clear hK K)
      refine wpStill_nil ?_
      clear d1' d2' cx'
      go_wp2
      exact⟨⟨f+1,by omega,by simp,(HI.out.skip HOK.out hkk HF1.out).kept (za2 HA0.out.1 (zb0 Wa none))⟩,by simp[intOf];omega⟩
    ·obtain rfl:f=4:=by omega
     clear hI
     go_wp2
     exact⟨⟨t+1,by omega,by simp,by rw[show 4*(t+1)=4*t+4 by omega];exact HI.out⟩,by simp[intOf];omega⟩
  ·obtain rfl:t=G.n:=by omega
   obtain⟨F,ds,uv,xs,hF,hZ⟩:=hI
   obtain⟨ua,uc,rfl⟩:=za8 hZ.own
   have hnF:clsN G (4*G.n)=nF G:=rfl
   rw[hnF] at hZ
   have hIB:=(HLT.out wr hZ.bel).1
   have hcm:orI G=0:=by unfold orI;rw[if_pos HZ.out.1,if_neg (by omega)]
   have hll:=hZ.LLn (E:=orF G) (fun j hj i hi=>hF j hj i hi)
   have d0:=hZ.d0
   have d1:=hZ.d1
   have hDN:N+2≤D1+1:=by have:=HB.out.1.lt;have:=HB.out.2.2.2;omega
   obtain⟨nf,hnf⟩:∃nf,nf=nF G:=⟨_,rfl⟩
   rw[←hnf] at d1 hll
   have HFN:=Hd4 hcm hll hIB.bel hnf
   obtain⟨-,-,y0,y1,z0,z1⟩:=hIB
   clear hcm hll hF hZ hnf
   go_wp2
   refine bodyPost_ret (v:=.tuple #[.agg #[.int .i64 2,.slice ua nf uc],.int .i64 0]) (by simp[results,Try.results37,go_sem, *]) rfl ⟨?_,2,_,by rw[HFN.out.1],.inr ⟨HFN.out.1,rfl,?_⟩⟩
   ·rw[←HN.out];exact (HFN.out.2.2.1.setCell (by show N≤N+1;omega) _).setCell (by show N≤N+1;omega) _
   ·rw[←HFN.out.2.2.2]
    have hl1:=HFN.out.2.1.kept (za1 _ (N+1) 0 (.int .i64 2)) (fun r e=>by cases e;omega)
    have hl2:=hl1.kept (za1 _ (N+1) 1 (.slice ua nf uc)) (fun r e=>by cases e;omega)
    exact hl2.LLs.mono (by simp)
end
end
section
open Go.RowKit Go.Shelf Go.Maps
def RTi (W:World)(A:Nat)(G:Gl)(t:Nat):Prop:=∀f,f<4→W.cell? ⟨A,f*5,none⟩=some (.int .i64 (G.tet (4*t+f)))
theorem RTi.kept {W W':World}{A t:Nat}{G:Gl}{row:Option Nat}(h:RTi W A G t)(hg:W.grownBy W' row)(hr:some A≠row):RTi W' A G t:=fun f hf=>hg.cell (h f hf) hr
theorem rowA_teti (G:Gl)(t f:Nat)(hf:f<4):(rowA G t)[f*5]?=some (.int .i64 (G.tet (4*t+f))):=by
 rcases (show f=0∨f=1∨f=2∨f=3 by omega) with rfl | rfl | rfl | rfl<;>simp[rowA]
theorem ImgAns.err {G:Gl}{S:Int}{ni:Nat}{li:Nat→Nat}{fi:Nat→Nat→Int}{c:Int}(hc:c≠0)(h:imgI G S ni li fi=c)(W:World):ImgAns G S ni li fi (.returned (.tuple #[.agg #[.int .i64 0,.slice none 0 0],.int .i64 c])) W:=
 ⟨0,.slice none 0 0,by rw[h],.inl ⟨by rw[h];exact hc,rfl,rfl⟩⟩
section
variable {G:Gl}{S:Int}{ni:Nat}{li:Nat→Nat}{fi:Nat→Nat→Int}
theorem imgI_ask {c:Int}(h:askI G=c)(hc:c≠0):imgI G S ni li fi=c:=by
 unfold imgI;rw[if_neg (by rw[h];exact hc),h]
theorem imgI_one (h:askI G=0)(hb:¬(oneB G=true∧1≤S∧S≤24)):imgI G S ni li fi=1:=by
 unfold imgI;rw[if_pos h,if_neg hb]
theorem imgI_num (h:askI G=0)(hb:¬(ni=gnN G (4*G.n)∧∀k,k<ni→permB (li k) (fi k) S=true)):imgI G S ni li fi=1:=by
 unfold imgI;rw[if_pos h,if_neg hb];split<;>rfl
theorem imgI_big (h:askI G=0)(h1:oneB G=true∧1≤S∧S≤24)(h2:ni=gnN G (4*G.n)∧∀k,k<ni→permB (li k) (fi k) S=true)(hb:¬S*G.n≤1000):imgI G S ni li fi=2:=by
 unfold imgI;rw[if_pos h,if_pos h1,if_pos h2,if_neg hb]
theorem imgI_re (h:askI G=0)(h1:oneB G=true∧1≤S∧S≤24)(h2:ni=gnN G (4*G.n)∧∀k,k<ni→permB (li k) (fi k) S=true)(h3:S*G.n≤1000):imgI G S ni li fi=rerI G S (nF G) (fun _=>S.toNat) (imgF G fi):=by
 unfold imgI rerI;rw[if_pos h,if_pos h1,if_pos h2,if_pos h3,if_pos h]
 by_cases e:IsP G S (nF G) (fun _=>S.toNat) (imgF G fi)
 ·rw[if_pos e,boolOf_true e];rfl
 ·rw[if_neg e,zd4 e];rfl
def conB (G:Gl)(k:Nat):Bool:=decide (0<G.n) && (List.range k).all fun u=>ptR G u==0
theorem conB_succ (G:Gl)(k:Nat):conB G (k+1)=(conB G k && (ptR G k==0)):=by
 unfold conB;rw[List.range_succ,List.all_append];simp[Bool.and_assoc]
theorem trD_elim (tr:Nat→Bool){t f:Nat}(hf:f<4):(trD tr (t,f)).elim (Value.bool false) Value.bool=.bool (tr (4*t+f)):=by
 unfold trD
 cases h:tr (4*t+f)<;>simp[hf]
structure IMs (G:Gl)(s ni:Nat)(li:Nat→Nat)(fi:Nat→Nat→Int)(m n:Nat)(F:Nat→Nat→Int):Prop where
 num:n=gnN G m
 le:n≤ni
 pm:∀g,g<n→permB (li g) (fi g) s=true
 row:∀c,c<nF G→∀i,i<s→F c i=if c<clsN G m then imgF G fi c i else (i:Int)
variable {s m n:Nat}{F:Nat→Nat→Int}
theorem IMs.start:IMs G s ni li fi 0 0 idF:=⟨rfl,by omega,fun g hg=>by omega,fun c _ i _=>by rw[if_neg (by simp[clsN,cnt])];rfl⟩
theorem IMs.skip (hok:za9 G=true)(hm:m<4*G.n)(hg:genB G m=false)(h:IMs G s ni li fi m n F):IMs G s ni li fi (m+1) n F:=by
 refine⟨by rw[h.num];simp[gnN,hg],h.le,h.pm,fun c hc i hi=>?_⟩
 rw[h.row c hc i hi,clsN_succ hok hm]
 by_cases hf:isF G m
 ·rw[if_pos hf]
  by_cases e:c=clsN G m
  ·subst e
   rw[if_neg (by omega),if_pos (by omega),←(clsN_first hok hm).2 hf,imgF_at hok hm hf,hg];rfl
  ·by_cases q:c<clsN G m
   ·rw[if_pos q,if_pos (by omega)]
   ·rw[if_neg q,if_neg (by omega)]
 ·rw[if_neg hf]
theorem IMs.put (hok:za9 G=true)(hm:m<4*G.n)(hg:genB G m=true)(h:IMs G s ni li fi m n F)(hn:n<ni)(hp:permB (li n) (fi n) s=true):IMs G s ni li fi (m+1) (n+1) (fun i=>if i=fN G m then fi n else F i):=by
 have hf:=(zd7.1 hg).2.2
 refine⟨by rw[h.num];simp[gnN,hg],by omega,fun g hg'=>?_,fun c hc i hi=>?_⟩
 ·rcases Nat.lt_or_ge g n with q | q
  ·exact h.pm g q
  ·rw[show g=n by omega];exact hp
 ·rw[clsN_succ hok hm,if_pos hf]
  by_cases e:c=fN G m
  ·have e2:=(clsN_first hok hm).2 hf
   rw[if_pos e,if_pos (by omega),e,imgF_at hok hm hf,if_pos hg,h.num]
  ·have e2:=(clsN_first hok hm).2 hf
   rw[if_neg e,h.row c hc i hi]
   by_cases q:c<clsN G m
   ·rw[if_pos q,if_pos (by omega)]
   ·rw[if_neg q,if_neg (by omega)]
theorem IMs.done (h:IMs G s ni li fi (4*G.n) n F):∀c,c<nF G→∀i,i<s→F c i=imgF G fi c i:=fun c hc i hi=>by
 rw[h.row c hc i hi];exact if_pos hc
end
end
section
open Go.RowKit Go.Shelf Go.Maps
theorem cimage_walk (G:Gl)(v:Value)(s0:Int)(iv:Value)(ni:Nat)(li:Nat→Nat)(fi:Nat→Nat→Int)(w:World)(hG:GlAt w.heap.size w v G)(hm:G.n≤9223372036854775807)(hiv:LLs w.heap.size w iv ni li fi)(hli:∀k,k<ni→li k<4611686018427387904)(hni:ni<4611686018427387904) :
  Calls Try.prog 34 #[.agg #[v],.int .i64 s0,iv] w fun e w'=>Below w.heap.size w w'∧ImgAns G s0 ni li fi e w':=by
 have HG:=Hd3 hG hiv hli
 obtain⟨a,cap,rfl⟩:∃a cap,v=.slice a G.n cap:=by obtain⟨a,_,_,cap,e,_⟩:=hG;exact⟨a,cap,e⟩
 obtain⟨ia,ic,rfl⟩:∃a cap,iv=.slice a ni cap:=by obtain⟨a,_,_,cap,e,_⟩:=hiv;exact⟨a,cap,e⟩
 clear hG hiv hli
 generalize hN:w.heap.size=N at *
 go_enter Try.func34,Try.ntmps34
 go_wp2_with fail
 refine zb4 fun W0 hW=>?_
 have h0:Below N w W0∧W0.cell? ⟨N,0,none⟩=some (.slice a G.n cap)∧(∃x,W0.cell? ⟨N+1,0,none⟩=some x)∧(∃x,W0.cell? ⟨N+1,1,none⟩=some x)∧W0.frozen? ⟨N+1,0,none⟩=false∧W0.frozen? ⟨N+1,1,none⟩=false∧W0.heap.size=N+2:=by
  rw[hW];subst hN;exact⟨by (repeat' (first | assumption | exact Below.refl _ _ | refine za7 ?_ (by assumption) | refine zb2 ?_ _ | refine za5 ?_ | refine zb1 ?_ (by simp<;>omega) _)),by simp[go_sem],⟨_,by simp[go_sem];rfl⟩,⟨_,by simp[go_sem];rfl⟩,by simp[go_sem],by simp[go_sem],by simp⟩
 clear hW
 obtain⟨hb,c0,⟨r0,c10⟩,⟨r1,c11⟩,f10,f11,hz0⟩:=h0
 have HNN:=Lib.hid hN
 have h41:=enter_two G (.slice a G.n cap) W0 ((HG.out.1.below hb).mono (by omega)) hm
 refine h41.mono ?_
 clear h41
 rintro e W1 ⟨hb1,pt,c,rfl,herr,hcase⟩
 have HER:=Lib.hid (enter_ask herr)
 clear herr
 have hbw:=hb.trans (hb1.mono (by omega))
 have hsz1:=hb1.size
 have HT0:=Hd5 c0 c10 c11 f10 f11
  -- the boxes, at any later world
 have box:∀W',Below W0.heap.size W0 W'→W'.cell? ⟨N,0,none⟩=some (.slice a G.n cap)∧W'.cell? ⟨N+1,0,none⟩=some r0∧W'.cell? ⟨N+1,1,none⟩=some r1∧W'.frozen? ⟨N+1,0,none⟩=false∧W'.frozen? ⟨N+1,1,none⟩=false:=fun W' hb'=>
  ⟨(hb'.cell (p:=⟨N,0,none⟩) (za0 c0)).trans c0,(hb'.cell (p:=⟨N+1,0,none⟩) (za0 c10)).trans c10,(hb'.cell (p:=⟨N+1,1,none⟩) (za0 c11)).trans c11,(hb'.frozen (p:=⟨N+1,0,none⟩) (za0 c10)).trans f10,(hb'.frozen (p:=⟨N+1,1,none⟩) (za0 c11)).trans f11⟩
 have BX:=Lib.hid box
 have HB0:=Lib.hid hb
 have hNW:N+2≤W1.heap.size:=by omega
 have HB1:=Lib.hid hb1
 have HE:=Lib.hid hbw
 obtain⟨k0,k10,k11,z10,z11⟩:=box W1 hb1
 clear hN hb hb1 hbw c0 c10 c11 f10 f11 hsz1 box HT0
 rcases hcase with hc | ⟨rfl,hok,X,mb,vv,ev,tv,lv,dB,rB,rfl,hSP⟩
 ·have q1:(c !=0)=true:=by simpa using hc
  have HC0:=Lib.hid hc
  clear hc hz0
  go_wp2
  exact bodyPost_ret (v:=.tuple #[.agg #[.int .i64 0,.slice none 0 0],.int .i64 c]) (by simp[results,Try.results34,go_sem, *]) rfl ⟨((HE.out.setCell (by show N≤N+1;omega) _).setCell (by show N≤N+1;omega) _),ImgAns.err HC0.out (imgI_ask HER.out HC0.out) _⟩
 ·have hn:G.n≤1000:=by simp only[za9,Bool.and_eq_true,decide_eq_true_eq] at hok;exact hok.1
  have hF:nF G≤4000:=by have:=zg7 (zb5 G).r4 (4*G.n);unfold nF;omega
  have h67:=PParts_walk G hok (.slice a G.n cap) W1 ((HG.out.1.below HE.out).mono (by omega))
  have HS:=Hd2 hok hSP
  have H67:=Lib.hid h67
  clear hok hSP h67 k10 k11 z10 z11
  go_wp2_with fail
  refine H67.out.mono ?_
  rintro e W2 ⟨rd,hh,rfl,hSI,hpt,hb2⟩
  have h2:=hb2.size
  have HB2:=Lib.hid (HB1.out.trans (hb2.mono (by omega)))
  have HE2:=Lib.hid (HE.out.trans (hb2.mono (by omega)))
  have HS2:=Hd2 HS.out.1 (HS.out.2.below hb2)
  have HSI:=Hd2 hSI hpt
  obtain⟨m,hme⟩:∃m,m=G.n:=⟨_,rfl⟩
  rw[←hme]
  have HME:=Lib.hid hme
  have hm1:m≤1000:=by rw[hme];exact hn
  clear hSI hpt hme
  clear hb2 k0 H67 HS
  go_wp2
  go_loopw [44,12] (fun i o wr=>∃(k:Nat) (b:Bool),k≤m∧i=.int .i64 k∧o=.bool b∧b=conB G k∧wr=W2) (fun i _ _=>m-(intOf i).toNat)
  case atStart=>exact⟨0,decide (0<m),by omega,rfl,rfl,by rw[HME.out];simp[conB],rfl⟩
  case round=>
   obtain⟨k,b,hk,rfl,rfl,hbk,rfl⟩:=hrel
   have HBK:=Lib.hid hbk
   clear hbk
   rcases Nat.lt_or_ge k m with hkm | hkm
   ·have ck:=HSI.out.1.cell (by rw[←HME.out];exact hkm)
    have hzk:=HSI.out.2 k (by rw[←HME.out];exact hkm)
    obtain⟨z,hz⟩:∃z,z=hh k:=⟨_,rfl⟩
    rw[←hz] at ck hzk
    have hzz:(ptR G k==0)=(z==0):=by
     rw[hzk]
     have:=ptN_zero HS2.out.1 (u:=k) (by rw[←HME.out];exact hkm)
     by_cases e:ptR G k=0
     ·rw[this.2 e,e];rfl
     ·have h1:(ptN G k==0)=false:=by
       rw[beq_eq_false_iff_ne]
       exact fun h=>e (this.1 h)
      rw[h1];simpa using e
    have HZZ:=Lib.hid hzz
    clear hz hzk hzz
    cases b with
    | false=>
     go_wp2
     exact⟨⟨k+1,false,by omega,by simp,rfl,by rw[conB_succ,←HBK.out,Bool.false_and],trivial⟩,by simp[intOf];omega⟩
    | true=>
     by_cases hz0:z=0
     ·have q1:(z==0)=true:=by simpa using hz0
      clear hz0
      go_wp2
      exact⟨⟨k+1,true,by omega,by simp,rfl,by rw[conB_succ,←HBK.out,HZZ.out,Bool.true_and];exact q1.symm,trivial⟩,by simp[intOf];omega⟩
     ·have q1:(z==0)=false:=by simpa using hz0
      clear hz0
      go_wp2
      exact⟨⟨k+1,false,by omega,by simp,rfl,by rw[conB_succ,←HBK.out,HZZ.out,Bool.true_and];exact q1.symm,trivial⟩,by simp[intOf];omega⟩
   ·obtain rfl:k=m:=by omega
    obtain⟨k0,k10,k11,z10,z11⟩:=BX.out wr HB2.out
    have hone:b=oneB G:=by rw[HBK.out,HME.out];rfl
    have HONE:=Lib.hid hone
    clear hone
    cases b with
    | false=>
     go_wp2
     exact bodyPost_ret (v:=.tuple #[.agg #[.int .i64 0,.slice none 0 0],.int .i64 1]) (by simp[results,Try.results34,go_sem, *]) rfl ⟨((HE2.out.setCell (by show N≤N+1;omega) _).setCell (by show N≤N+1;omega) _),ImgAns.err (by omega) (imgI_one HER.out (fun h=>by rw[←HONE.out] at h;exact absurd h.1 (by simp))) _⟩
    | true=>
     rcases Int.lt_or_le s0 1 with hs1 | hs1
     ·have q1:decide (s0<1)=true:=by simpa using hs1
      go_wp2
      exact bodyPost_ret (v:=.tuple #[.agg #[.int .i64 0,.slice none 0 0],.int .i64 1]) (by simp[results,Try.results34,go_sem, *]) rfl ⟨((HE2.out.setCell (by show N≤N+1;omega) _).setCell (by show N≤N+1;omega) _),ImgAns.err (by omega) (imgI_one HER.out (fun h=>by omega)) _⟩
     ·have q1:decide (s0<1)=false:=by simpa using hs1
      rcases Int.lt_or_le 24 s0 with hs2 | hs2
      ·have q2:decide (24<s0)=true:=by simpa using hs2
       go_wp2
       exact bodyPost_ret (v:=.tuple #[.agg #[.int .i64 0,.slice none 0 0],.int .i64 1]) (by simp[results,Try.results34,go_sem, *]) rfl ⟨((HE2.out.setCell (by show N≤N+1;omega) _).setCell (by show N≤N+1;omega) _),ImgAns.err (by omega) (imgI_one HER.out (fun h=>by omega)) _⟩
      ·have q2:decide (24<s0)=false:=by simpa using hs2
       obtain⟨s,rfl⟩:∃s:Nat,s0=s:=⟨s0.toNat,by omega⟩
       have HS1:=Lib.hid (show oneB G=true∧1≤(s:Int)∧(s:Int)≤24 from⟨HONE.out.symm,by omega,by omega⟩)
       have h70:=btree_walk G HS2.out.1 (.slice a G.n cap) wr ((HG.out.1.below HE2.out).mono (by omega))
       have H70:=Lib.hid h70
       clear k10 k11 z10 z11 h70
       go_wp2_with fail
       refine H70.out.mono ?_
       rintro e W3 ⟨bT,nT,rfl,hT,hbT,hb3⟩
       clear hbT
       have h3:=hb3.size
       have HB3:=Lib.hid (HB2.out.trans (hb3.mono (by omega)))
       have HE3:=Lib.hid (HE2.out.trans (hb3.mono (by omega)))
       have hSP3:=HS2.out.2.below hb3
       have HS3:=Hd2 HS2.out.1 hSP3
       have HT:=Lib.hid hT
       have x8a:=za4 hSP3.c8
       obtain⟨F,hFe⟩:∃F,F=nF G:=⟨_,rfl⟩
       have hFe2:cnt (zb5 G).r4 (4*G.n)=F:=hFe.symm
       rw[hFe2] at x8a
       rw[←hFe] at hF
       have HF:=Lib.hid hFe
       clear hFe hFe2 hSP3 hb3 HE2 HB2 HS2 H70 k0 hT
       go_wp2
       obtain⟨D,hD⟩:∃D,D=W3.heap.size:=⟨_,rfl⟩
       rw[←hD]
       refine zb3 fun W6 hW6=>?_
       have h6:COx W3 W6 D 0 s s idF (.slice none 0 0) []:=by
        rw[hW6]
        exact⟨World.ownsRow_nil _ _ _ _,fun j x hx=>by simp at hx,by rw[hD];simp[go_sem],by rw[hD];simp[go_sem],World.frozen?_alloc_at _ _ _ _ hD,(Below.refl _ _).alloc (by omega) _⟩
       have HD:=Lib.hid hD
       have H6:=Lib.hid h6
       clear h6 hD hW6 x8a
       go_loopw [73] (fun i wr=>∃(k:Nat) (uv:Value) (xs:List Value),k≤F∧i=.int .i64 k∧COx W3 wr D k s s idF uv xs) (fun i _=>F-(intOf i).toNat)
       case atStart=>exact⟨0,_,_,by omega,rfl,H6.out⟩
       case round=>
        clear H6
        obtain⟨k,uv,xs,hk,rfl,hZ⟩:=hrel
        have HK:=Lib.hid hZ
        obtain⟨ua,uc,rfl⟩:=za8 hZ.own
        rcases Nat.lt_or_ge k F with hkF | hkF
        ·have d1:wr.drew.cell? ⟨D,1,none⟩=some (.slice ua k uc):=hZ.d1
         have hDl:=za0 hZ.d0
         simp only at hDl
         obtain⟨i3,hi3,hz30,hz31,hz32⟩:=info_parts info35
         have H42:=Lib.hid (identity_walk s (by omega) wr.drew)
         clear hZ
         go_wp2
         refine wp_region_noPanic ?_
         go_region_law (first
          |(go_simp;go_at_call 42;(with_reducible refine H42.out.mono ?_);rintro e w6 ⟨rfl,hrow,hb6⟩;have hk6:=(HK.out.kept (zb0 wr none)).kept (za6 hb6 (Nat.le_refl _) none);have c36:=hk6.d1;have c36a:=za4 c36;have hs6:=hb6.size;have H6:=Hd3 hk6 hrow hb6;clear hk6 hrow hb6)
          |(refine step_append_lies _ rfl (.tmp 76) (.tmp 79) 26 rfl (D+1) 35 i3 _ 1 24 und26 hi3 hz30 hz31 hz32 rfl (by omega) (.slice ua k uc) k xs rfl (H6.out.1.own.alloc _) ⟨w6.heap.size,0,none⟩ 1 1 [.slice (some ⟨wr.heap.size,0,none⟩) s s] rfl rfl (World.news_of_block (cs:=#[.slice (some ⟨wr.heap.size,0,none⟩) s s]) (MapKept.heap_alloc w6 _).1) (by simp[Value.oneCell']) (by omega) (by unfold maxLen;omega) (by omega) (by have:=za0 c36;simp at this ⊢;omega) (w6.heap.size+1) (by simp) ?_;intro g cp w8 h1 h2 h3 h4;have c1:=h2.cell (c36a _) H6.out.1.ne;have f1:=(h2.frozen_far ⟨D,1,none⟩ (za0 (c36a _)) H6.out.1.ne).trans (H6.out.1.kept (World.grownBy_alloc _ _ none)).f1;have HA:=Hd3 h1 h2 h3;clear h1 h2 h3 h4))
         all_goals refine NoPanic.normal ?_
         all_goals go_wp2_with fail
         all_goals exact⟨⟨k+1,_,_,by omega,by simp,COx.push HK.out (za2 (zb0 wr none) (za2 (za6 H6.out.2.2 (Nat.le_refl _) none) (World.grownBy_alloc _ _ none))) (fun ob hob=>ROWx.of_row (za3 H6.out.2.1 (World.grownBy_alloc _ _ none) (by simp)) hDl (fun e=>by rcases hob _ e with q | q<;>simp at q hs6<;>omega)) HA.out.1 HA.out.2.1 (HA.out.2.2.imp id (fun e=>by simpa using e))⟩,by simp[intOf];omega⟩
        ·obtain rfl:k=F:=by omega
         have HF2:=Hd2 hk hkF
         clear hk hkF
         have hb3:Below W3.heap.size W3 wr:=by rw[←HD.out];exact hZ.bel
         have y0:=(BX.out _ (HB3.out.trans (hb3.mono (by omega)))).1
         clear hZ hb3
         go_wp2
         clear y0
         go_loopw [17,86] (fun nv i wr=>∃(t n:Nat) (xs:List Value) (E:Nat→Nat→Int),t≤G.n∧i=.int .i64 t∧nv=.int .i64 n∧IMs G s ni li fi (4*t) n E∧COx W3 wr D k s s E (.slice ua k uc) xs) (fun _ i _=>G.n-(intOf i).toNat)
         case atStart=>exact⟨0,0,xs,idF,by omega,rfl,rfl,IMs.start,HK.out⟩
         case round=>
          clear HK
          obtain⟨t,n,xs,E,ht,rfl,rfl,hIM,hZ⟩:=hrel
          have HK:=Lib.hid hZ
          have HIM:=Lib.hid hIM
          have hnn:=hIM.le
          clear hZ hIM
          rcases Nat.lt_or_ge t G.n with htn | htn
          ·obtain⟨_,gb,go,_,hge,hga,hgc⟩:=HG.out.1
           simp only[Value.slice.injEq,true_and] at hge
           obtain⟨hge1,hge2⟩:=hge
           subst hge1 hge2
           obtain⟨rfl,hgN⟩:=hga (by omega)
           have hND:N≤W3.heap.size:=by omega
           have hbN:Below N w wr:=HE3.out.trans ((HD.out▸HK.out.bel:Below W3.heap.size W3 wr).mono hND)
           have hrow:=ze5 (W:=wr) (b:=gb) (off:=go) (fun k hk=>⟨(hbN.cell (p:=⟨gb,_,none⟩) hgN).trans (hgc k hk).1,fun i hi=>(hbN.cell (p:=⟨gb,_,none⟩) hgN).trans ((hgc k hk).2 i hi)⟩) t htn
           have hrg:=hrow.range
           have t0:0≤(t:Int):=by omega
           have tn:(t:Int)<(G.n:Int):=by omega
           clear hga hgc hbN hrow
           go_wp2_with (first|(refine zb8 rfl 88 (.tmp 89) rfl gb (go+t*20) rfl (rowA G t) _ hrg Try.underlying88 rfl (by kernel_rfl) ?_)|(refine zc2 (w:=wr) rfl 88 (.tmp 19) (.tmp 90) rfl _ (rowA G t) rfl rfl (by kernel_rfl) rfl (zf9 G t) ?_))
           clear hrg
           refine zb3 fun W4 hW4=>?_
           obtain⟨A,hA⟩:∃A,A=wr.heap.size:=⟨_,rfl⟩
           have hgA:∀g,(Value.slice ua k uc).ownBlock=some g→g<A:=fun g hg=>by rw[hA];exact (HK.out.own.lt g hg).2
           have h4:COx W3 W4 D k s s E (.slice ua k uc) xs∧RTi W4 A G t:=by
            rw[hW4]
            refine⟨HK.out.kept (World.grownBy_alloc _ _ none),fun f hf=>?_⟩
            rw[hA,←rowA_teti G t f hf]
            exact World.cell?_alloc_at _ _ _ _ rfl
           rw[←hA]
           have H4:=Lib.hid h4
           clear h4 hW4 hA HK
           go_loopw [17,91] (fun nv i wr=>∃(f n:Nat) (xs:List Value) (E:Nat→Nat→Int),f≤4∧i=.int .i64 f∧nv=.int .i64 n∧IMs G s ni li fi (4*t+f) n E∧COx W3 wr D k s s E (.slice ua k uc) xs∧RTi wr A G t) (fun _ i _=>4-(intOf i).toNat)
           case atStart=>exact⟨0,n,xs,E,by omega,rfl,rfl,HIM.out,H4.out⟩
           case round=>
            clear H4 hnn HIM
            obtain⟨f,n,xs,E,hf,rfl,rfl,hIM,hZ,hRT⟩:=hrel
            have HIM:=Lib.hid hIM
            have hnn:=hIM.le
            clear hIM
            have HK:=Hd2 hZ hRT
            rcases Nat.lt_or_ge f 4 with hf4 | hf4
            ·have hcd:Below W3.heap.size W3 wr:=by rw[←HD.out];exact hZ.bel
             have hSPr:=HS3.out.2.below hcd
             have x7:=hSPr.c7
             obtain⟨nn,hmap⟩:=hSPr.map
             have okt:okp (t,f):=⟨by show t<9223372036854775808;omega,by show f<9223372036854775808;omega⟩
             have hlk:=hmap.look codes83 und78 (zero3 _) true (t,f) okt
             simp only[if_true] at hlk
             have hTr:=HT.out.kept (za6 hcd (Nat.le_refl _) none) (by simp)
             have hlT:=hTr.look codes83 und127 (zero4 _) false (t,f) okt
             have rt:=hRT f hf4
             obtain⟨T,hTe⟩:∃T,T=G.tet (4*t+f):=⟨_,rfl⟩
             rw[←hTe] at rt
             obtain⟨bt,hbt⟩:∃b,b=treeB G (4*t+f):=⟨_,rfl⟩
             simp only[Bool.false_eq_true,if_false] at hlT
             rw[trD_elim _ hf4,←hbt] at hlT
             have hkk:4*t+f<4*G.n:=by omega
             have hD:=fD_at HS3.out.1 (4*G.n) (Nat.le_refl _) t f hf4
             have HGB:=Hd3 hTe hbt hkk
             unfold kp at hlk hlT
             simp only at hlk hlT
             have f0:0≤(f:Int):=by omega
             have f4:(f:Int)<4:=by omega
             have sz:A<wr.heap.size:=za0 rt
             clear hZ hRT hcd hSPr hmap hTr hTe hbt
             by_cases hiF:isF G (4*t+f)
             case neg=>
              rw[if_neg (fun h=>hiF h.2)] at hD
              rw[hD] at hlk
              have hgb:genB G (4*t+f)=false:=by
               cases h:genB G (4*t+f) with
               | false=>rfl
               | true=>exact absurd (zd7.1 h).2.2 hiF
              have HGF:=Lib.hid (HIM.out.skip HS3.out.1 HGB.out.2.2 hgb)
              clear hgb hD hiF hkk
              simp only[Option.elim,Option.isSome] at hlk
              go_wp2
              exact⟨⟨f+1,n,xs,E,by omega,by simp,rfl,HGF.out,HK.out⟩,by simp[intOf];omega⟩
             case pos=>
              rw[if_pos ⟨hkk,hiF⟩] at hD
              obtain⟨c,hc⟩:∃c,c=fN G (4*t+f):=⟨_,rfl⟩
              rw[hD,←hc] at hlk
              have HFC:=Hd2 hiF hc
              simp only[Option.elim,Option.isSome] at hlk
              unfold vi at hlk
              have hck:c<k:=by rw[hc,HF.out];exact fN_lt HS3.out.1 hkk
              clear hD hc hiF hkk
              rcases Int.lt_or_le T 0 with hT0 | hT0
              ·have q1:decide (T<0)=true:=by simpa using hT0
               go_wp2
               exact⟨⟨f+1,n,xs,E,by omega,by simp,rfl,HIM.out.skip HS3.out.1 HGB.out.2.2 (by
                cases h:genB G (4*t+f) with
                | false=>rfl
                | true=>exact absurd (zd7.1 h).1 (by rw[←HGB.out.1];omega)),HK.out⟩,by simp[intOf];omega⟩
              ·have q1:decide (T<0)=false:=by simpa using hT0
               cases bt with
               | true=>
                go_wp2
                exact⟨⟨f+1,n,xs,E,by omega,by simp,rfl,HIM.out.skip HS3.out.1 HGB.out.2.2 (by
                 cases h:genB G (4*t+f) with
                 | false=>rfl
                 | true=>exact absurd ((zd7.1 h).2.1.symm.trans HGB.out.2.1.symm) (by simp)),HK.out⟩,by simp[intOf];omega⟩
               | false=>
                have hgt:genB G (4*t+f)=true:=zd7.2 ⟨by rw[←HGB.out.1];exact hT0,HGB.out.2.1.symm,HFC.out.1⟩
                have HGT:=Lib.hid hgt
                clear hgt
                have hiv:=HG.out.2.1
                rcases Nat.lt_or_ge n ni with hnl | hnl
                ·have q3:decide ((ni:Int)≤(n:Int))=false:=by simp;omega
                 obtain⟨_,ib,io,_,hie,hi1,hi2⟩:=hiv
                 obtain⟨rfl,-,rfl⟩:ia=_∧ni=ni∧ic=_:=by simpa using hie
                 obtain⟨rfl,hiN⟩:=hi1 (by omega)
                 obtain⟨rv,hrv,hSv⟩:=hi2 n hnl
                 have hND:N≤W3.heap.size:=by omega
                 have hbN:Below N w wr:=HE3.out.trans ((HD.out▸HK.out.1.bel:Below W3.heap.size W3 wr).mono hND)
                 have iv0:=(hbN.cell (p:=⟨ib,io+n,none⟩) hiN).trans hrv
                 have hwN:N≤wr.heap.size:=by have:=hbN.size;have:=HNN.out;omega
                 have h71:=isPerm_walk (li n) (fi n) s (HG.out.2.2 n hnl) (by omega) N wr hwN rv (hSv.below hbN)
                 have H71:=Hd3 h71 hSv hbN
                 have n0:0≤(n:Int):=by omega
                 have nni:(n:Int)<(ni:Int):=by omega
                 clear hie hi1 hi2 hrv hSv hbN h71
                 cases hp:permB (li n) (fi n) s with
                 | false=>
                  have HPF:=Lib.hid hp
                  go_wp2_with ((go_at_call 71;(with_reducible refine H71.out.1.mono ?_);rintro e w5 ⟨rfl,hb5⟩;rw[hp];obtain⟨k0,k10,k11,z10,z11⟩:=BX.out w5 (HB3.out.trans (((HD.out▸HK.out.1.bel:Below W3.heap.size W3 _).trans (hb5.mono (HD.out▸HK.out.1.bel:Below W3.heap.size W3 _).size)).mono (by omega)));have HB5:=Lib.hid (H71.out.2.2.trans (hb5.mono hwN));clear hb5))
                  exact bodyPost_ret (v:=.tuple #[.agg #[.int .i64 0,.slice none 0 0],.int .i64 1]) (by simp[results,Try.results34,go_sem, *]) rfl ⟨((HB5.out.setCell (by show N≤N+1;omega) _).setCell (by show N≤N+1;omega) _),ImgAns.err (by omega) (imgI_num HER.out (fun h=>absurd (h.2 n hnl) (by rw[HPF.out];simp))) _⟩
                 | true=>
                  have hls:=zg1 hp
                  have HP:=Hd2 hp hls
                  clear hp hls
                  go_wp2_with ((go_at_call 71;(with_reducible refine H71.out.1.mono ?_);rintro e w5 ⟨rfl,hb5⟩;rw[HP.out.1];have hk5:=HK.out.1.kept (za6 hb5 (Nat.le_refl _) none);have hr5:=HK.out.2.kept (za6 hb5 (Nat.le_refl _) none) (by simp);have iv5:=(hb5.cell (p:=⟨ib,io+n,none⟩) (by have:=za0 iv0;exact this)).trans iv0;have HB5:=Hd3 hk5 hr5 hb5;clear hk5 hr5 hb5))
                  obtain⟨g,gc,xo,hue,-⟩:=HB5.out.1.at hck
                  obtain⟨rfl,-,rfl⟩:ua=some ⟨g,0,none⟩∧k=k∧uc=gc:=by simpa using hue
                  have hSs:=H71.out.2.1
                  rw[HP.out.2] at hSs
                  obtain⟨ia2,ib2,io2,ic2,rfl,hs1',hs2'⟩:=hSs
                  obtain⟨rfl,hi2N⟩:=hs1' (by omega)
                  have hN5:Below N w w5:=H71.out.2.2.trans (HB5.out.2.2.mono hwN)
                  have news:∀(o:Obj) (j:Nat) (u:Value),(nums (fi n) s)[j]?=some u→(w5.alloc o).cell? ((⟨ib2,io2,none⟩:Addr).add j)=some u:=fun o j u hu=>by
                   have hj:j<s:=by have:=(List.getElem?_eq_some_iff.1 hu).1;simpa [nums] using this
                   simp only[nums,List.getElem?_map,List.getElem?_range hj,Option.map_some,Option.some.injEq] at hu
                   subst hu
                   rw[Addr.add_mid]
                   exact za4 ((hN5.cell (p:=⟨ib2,io2+j,none⟩) hi2N).trans (hs2' j hj)) o
                  have one:∀u∈nums (fi n) s,u.oneCell'=true:=fun u hu=>by
                   simp only[nums,List.mem_map] at hu
                   obtain⟨i,_,rfl⟩:=hu
                   rfl
                  have HNW:=Hd2 news one
                  have d1:=HB5.out.1.d1
                  have d1a:=za4 d1
                  have iv5a:=za4 iv5
                  have hs5:=HB5.out.2.2.size
                  obtain⟨j0,hj0,hy0,hy1,hy2⟩:=info_parts info3
                  have own0:=World.ownsRow_lit (base:=w5.heap.size) (e:=3) (size:=1) w5 #[] 0 (Nat.le_refl _) (by decide) rfl
                  have HO:=Lib.hid own0
                  have fin:∀(g8 cp8:Nat) (w8:World),w8.ownsRow w5.heap.size 3 1 (.slice (some ⟨g8,0,none⟩) (0+s) cp8) (0+s) ([]++nums (fi n) s)→(w5.alloc (.cells #[] 3)).drew.grownBy w8 (some w5.heap.size) →
                    w5.grownBy w8 none∧ROWx w8 D s (fi n) (some g) (.slice (some ⟨g8,0,none⟩) s cp8)∧(∃x,w8.cell? ⟨g,c,none⟩=some x)∧w8.frozen? ⟨g,c,none⟩=false∧w8.cell? ⟨D,1,none⟩=some (.slice (some ⟨g,0,none⟩) k uc):=fun g8 cp8 w8 r1 r2=>by
                   have hbe:Below w5.heap.size w5 w8:=(za5 ((Below.refl w5.heap.size w5).alloc (Nat.le_refl _) (.cells #[] 3))).grown r2 (by simp) (fun r e=>by cases e;omega)
                   have hgr:=za6 hbe (Nat.le_refl _) none
                   obtain⟨g',gc',x',e1,e2,e3,e4,e5⟩:=(HB5.out.1.kept hgr).at hck
                   obtain⟨rfl,-⟩:g=g'∧uc=gc':=by simpa using e1
                   have hgl:=(HB5.out.1.own.lt g rfl).2
                   have hDg:=(HB5.out.1.own.lt g rfl).1
                   obtain⟨l1,l2⟩:=r1.lt g8 rfl
                   rw[Nat.zero_add,List.nil_append] at r1
                   refine⟨hgr,⟨_,g8,cp8,rfl,fun _=>⟨rfl,by omega,l2,by simp;omega⟩,fun i hi=>?_⟩,⟨_,e2⟩,e3,(HB5.out.1.kept hgr).d1⟩
                   have:=r1.cells (g:=g8) rfl i (.int .i64 (fi n i)) (by simp[nums,hi])
                   rwa [Addr.add_mid,Nat.zero_add] at this
                  have HFin:=Lib.hid fin
                  clear fin
                  clear news one own0 hN5 hs1' hs2' hue
                  refine wp_region_noPanic ?_
                  go_region_law (refine step_append_lies _ rfl (.tmp 138) (.tmp 142) 35 rfl w5.heap.size 3 j0 _ 1 8 und35 hj0 hy0 hy1 hy2 rfl (by omega) (.slice (some ⟨w5.heap.size,0,none⟩) 0 0) 0 [] rfl HO.out ⟨ib2,io2,none⟩ s ic2 (nums (fi n) s) rfl (by simp[nums]) (HNW.out.1 _) HNW.out.2 (by omega) (by unfold maxLen;omega) (by omega) (by simp) (w5.heap.size+1) (by simp) ?_;intro g8 cp8 w8 h1 h2 h3 h4;obtain⟨r1,r2,⟨r3,r4⟩,r5,r6⟩:=HFin.out g8 cp8 w8 h1 (by first | exact h2 | exact za2 (zb0 _ _) h2);have HA:=Hd2 r1 r2;clear h1 h2 h3 h4 r1 r2)
                  all_goals refine NoPanic.normal ?_
                  all_goals go_wp2_with fail
                  all_goals exact⟨⟨f+1,n+1,_,_,by omega,by simp,by simp,HFC.out.2▸HIM.out.put HS3.out.1 HGB.out.2.2 HGT.out hnl HP.out.1,COx.put HB5.out.1 HA.out.1 HA.out.2,(HB5.out.2.1.kept HA.out.1 (by simp)).kept (za1 _ g c _) (by have:=hgA g rfl;simp;omega)⟩,by simp[intOf];omega⟩
                ·have q3:decide ((ni:Int)≤(n:Int))=true:=by simp;omega
                 obtain⟨k0,k10,k11,z10,z11⟩:=BX.out wr (HB3.out.trans ((HD.out▸HK.out.1.bel:Below W3.heap.size W3 wr).mono (by omega)))
                 have HB5:=Lib.hid (HE3.out.trans ((HD.out▸HK.out.1.bel:Below W3.heap.size W3 wr).mono (by omega)))
                 clear hiv
                 go_wp2
                 exact bodyPost_ret (v:=.tuple #[.agg #[.int .i64 0,.slice none 0 0],.int .i64 1]) (by simp[results,Try.results34,go_sem, *]) rfl ⟨((HB5.out.setCell (by show N≤N+1;omega) _).setCell (by show N≤N+1;omega) _),ImgAns.err (by omega) (imgI_num HER.out (fun h=>by have h1:=gnN_lt HGT.out HGB.out.2.2;have h2:=HIM.out.num;omega)) _⟩
            ·obtain rfl:f=4:=by omega
             clear hZ hRT
             go_wp2
             exact⟨⟨t+1,n,xs,E,by omega,by simp,rfl,by rw[show 4*(t+1)=4*t+4 by omega];exact HIM.out,HK.out.1⟩,by simp[intOf];omega⟩
          ·obtain rfl:t=G.n:=by omega
           have hND:N≤W3.heap.size:=by omega
           have hbN:Below N w wr:=HE3.out.trans ((HD.out▸HK.out.bel:Below W3.heap.size W3 wr).mono hND)
           have hbW:Below W0.heap.size W0 wr:=HB3.out.trans ((HD.out▸HK.out.bel:Below W3.heap.size W3 wr).mono (by omega))
           have HBN:=Hd2 hbN hbW
           obtain⟨k0,k10,k11,z10,z11⟩:=BX.out wr hbW
           clear hbN hbW
           by_cases hni2:n=ni
           ·have q3:((n:Int) !=(ni:Int))=false:=by simp;omega
            have HAL:=Lib.hid (show ni=gnN G (4*G.n)∧∀k,k<ni→permB (li k) (fi k) s=true from⟨hni2.symm.trans HIM.out.num,fun k hk=>HIM.out.pm k (by omega)⟩)
            have hPle:s*G.n≤24000:=Nat.le_trans (Nat.mul_le_mul (show s≤24 by omega) hn) (by omega)
            obtain⟨P,hP⟩:∃P:Nat,P=s*G.n:=⟨_,rfl⟩
            rw[←hP] at hPle
            have hPi:(s:Int)*(G.n:Int)=(P:Int):=by rw[hP];push_cast;rfl
            have q4:IntKind.i64.wrap ((s:Int)*(G.n:Int))=(P:Int):=by rw[hPi,IntWalk.i64_in _ (by omega)]
            have HPI:=Lib.hid hPi
            clear hP hPi
            rcases Nat.lt_or_ge 1000 P with hP1 | hP1
            ·have q5:decide ((1000:Int)<(P:Int))=true:=by simp;omega
             go_wp2
             exact bodyPost_ret (v:=.tuple #[.agg #[.int .i64 0,.slice none 0 0],.int .i64 2]) (by simp[results,Try.results34,go_sem, *]) rfl ⟨((HBN.out.1.setCell (by show N≤N+1;omega) _).setCell (by show N≤N+1;omega) _),ImgAns.err (by omega) (imgI_big HER.out HS1.out HAL.out (by rw[HPI.out];omega)) _⟩
            ·have q5:decide ((1000:Int)<(P:Int))=false:=by simp;omega
             have hZI:=HK.out.congr (F':=imgF G fi) (fun j hj i hi=>HIM.out.done j (by rw[←HF.out];exact hj) i hi)
             have hLL:=hZI.LLs
             have HZI:=Lib.hid hZI
             have d0:=hZI.d0
             have d1:=hZI.d1
             have hwN:N≤wr.heap.size:=by have:=HBN.out.1.size;have:=HNN.out;omega
             have h44:=asked_walk G (.slice a G.n cap) s (.slice ua k uc) k (fun _=>s) (imgF G fi) wr ((HG.out.1.below HBN.out.1).mono hwN) hm hLL (fun j hj=>by show s<_;omega) (by omega)
             have H44:=Lib.hid h44
             have HRE:=Lib.hid (show imgI G s ni li fi=rerI G s k (fun _=>s) (imgF G fi) by rw[imgI_re HER.out HS1.out HAL.out (by rw[HPI.out];omega),HF.out];rfl)
             clear h44 hLL hZI k10 k11 z10 z11
             go_wp2_with fail
             refine H44.out.mono ?_
             rintro e w9 ⟨hb9,h9⟩
             obtain⟨pt,c9,rfl,herr9,-⟩:=h9.two
             have HE9:=Lib.hid (HRE.out.trans (asked_rerI herr9).symm)
             have HB9:=Hd3 (HBN.out.1.trans (hb9.mono hwN)) (HZI.out.LLn.kept (za6 hb9 (Nat.le_refl _) none) (fun r e=>by cases e)) hb9.size
             obtain⟨k0,k10,k11,z10,z11⟩:=BX.out w9 (HBN.out.2.trans (hb9.mono HBN.out.2.size))
             have e0:=(hb9.cell (p:=⟨D,0,none⟩) (za0 d0)).trans d0
             have e1:=(hb9.cell (p:=⟨D,1,none⟩) (za0 d1)).trans d1
             clear hb9 h9 herr9 d0 d1
             by_cases hc9:c9=0
             ·subst hc9
              have hne:N+1≠D:=by have:=HD.out;omega
              have hDN:N+1<D:=by have:=HD.out;omega
              have HDN:=Lib.hid hDN
              clear hDN
              go_wp2
              refine bodyPost_ret (v:=.tuple #[.agg #[.int .i64 s,.slice ua k uc],.int .i64 0]) (by simp[results,Try.results34,go_sem, *]) rfl ⟨((HB9.out.1.setCell (by show N≤N+1;omega) _).setCell (by show N≤N+1;omega) _),s,_,by rw[HE9.out],.inr ⟨HE9.out,rfl,?_⟩⟩
              rw[←HF.out]
              have hl1:=HB9.out.2.1.kept (za1 _ (N+1) 0 (.int .i64 (s:Int))) (fun r e=>by cases e;have:=HDN.out;omega)
              have hl2:=hl1.kept (za1 _ (N+1) 1 (.slice ua k uc)) (fun r e=>by cases e;have:=HDN.out;omega)
              exact hl2.LLs.mono (by have:=HB9.out.2.2;simp;omega)
             ·have q6:(c9 !=0)=true:=by simpa using hc9
              have HC9:=Lib.hid hc9
              clear hc9
              go_wp2
              exact bodyPost_ret (v:=.tuple #[.agg #[.int .i64 0,.slice none 0 0],.int .i64 c9]) (by simp[results,Try.results34,go_sem, *]) rfl ⟨((HB9.out.1.setCell (by show N≤N+1;omega) _).setCell (by show N≤N+1;omega) _),ImgAns.err HC9.out HE9.out _⟩
           ·have q3:((n:Int) !=(ni:Int))=true:=by simp;omega
            go_wp2
            exact bodyPost_ret (v:=.tuple #[.agg #[.int .i64 0,.slice none 0 0],.int .i64 1]) (by simp[results,Try.results34,go_sem, *]) rfl ⟨((HBN.out.1.setCell (by show N≤N+1;omega) _).setCell (by show N≤N+1;omega) _),ImgAns.err (by omega) (imgI_num HER.out (fun h=>hni2 (HIM.out.num.trans h.1.symm))) _⟩
end
end Go.Proofs.Ytlckpgahijlmoaa
