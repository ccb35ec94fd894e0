/- R01.Check of a gluing that glue.Check takes. -/
import Derived.Test.YtlckpgahijlmoaaQ17
import Derived.Great.Walk
import Derived.Test.YtlckpgahijlmoaaQ15
set_option maxRecDepth 100000
set_option maxHeartbeats 8000000
namespace Go.Proofs.Ytlckpgahijlmoaa
section
open Go.RowKit Go.Shelf Go.Maps
theorem built88 (H:Gl)(k:Nat):Try.prog.builtSlice 88 1 [(0,.agg (rowA H k))]=some (rowA H k):=by kernel_rfl
theorem fold88 (H:Gl)(k:Nat):Array.foldl (fun (cs:Array Value) (x:Value×Nat)=>cs.setIfInBounds x.snd x.fst) #[.int .i64 0,.int .i64 0,.int .i64 0,.int .i64 0,.int .i64 0,.int .i64 0,.int .i64 0,.int .i64 0,.int .i64 0,.int .i64 0,.int .i64 0,.int .i64 0,.int .i64 0,.int .i64 0,.int .i64 0,.int .i64 0,.int .i64 0,.int .i64 0,.int .i64 0,.int .i64 0] (rowA H k).zipIdx 0 (rowA H k).size=rowA H k:=by kernel_rfl
theorem GO.alloc {W:World}{N:Nat}{uv:Value}{k:Nat}{xs:List Value}(h:GO W N uv k xs)(o:Obj):GO (W.alloc o) N uv k xs:=h.kept (World.grownBy_alloc W o none) (by simp) (by simp) (.inl rfl)
theorem zb9.alloc {W:World}{b o t:Nat}{G:Gl}(h:zb9 W b o G t)(ob:Obj):zb9 (W.alloc ob) b o G t:=h.kept (World.grownBy_alloc W ob none) (by simp)
theorem own_lt_size {w:World}{base:Nat}{e:TypeId}{size:Nat}{v:Value}{n:Nat}{xs:List Value}(h:w.ownsRow base e size v n xs){g:Nat}(hg:v.ownBlock=some g):g<w.heap.size:=by
 rcases h.2 with ⟨rfl,_⟩ | ⟨g',cap,cur,rfl,_,hb,_⟩
 ·cases hg
 ·cases hg
  exact (Array.getElem?_eq_some_iff.1 hb).1
theorem zb9.covered {W:World}{b o t s sh:Nat}{G:Gl}{f g:Nat→Nat→Int}(ht:t<G.n)(h:zb9 W b o (mixG G (fun k=>(covG G f g sh).tet (4*(s*G.n)+k)) 4) t):zb9 W b o (covG G f g sh) (s*G.n+t):=by
 intro j hj
 rw[←mix_all G f g sh s t ht];exact h j hj
theorem own_ge {w:World}{base:Nat}{e:TypeId}{size:Nat}{v:Value}{n:Nat}{xs:List Value}(h:w.ownsRow base e size v n xs){g:Nat}(hg:v.ownBlock=some g):base≤g:=by
 rcases h.2 with ⟨rfl,_⟩ | ⟨g',cap,cur,rfl,hb,_⟩
 ·cases hg
 ·cases hg
  exact hb
structure TR (wr w:World)(N D t m k:Nat)(uv:Value)(G:Gl)(X:Nat→Int)(xs:List Value):Prop where
 row:zb9 wr D 0 (mixG G X m) t
 go:GO wr N uv k xs
 bel:Below N w wr
 ne:uv.ownBlock≠some D
 fr:∀j,wr.frozen? ⟨D,j,none⟩=false
 lt:D<wr.heap.size
 le:N≤D
 ne1:D≠N
 ne2:D≠N+1
theorem TR.below {wr w w':World}{N D t m k:Nat}{uv:Value}{G:Gl}{X:Nat→Int}{xs:List Value}(h:TR wr w N D t m k uv G X xs)(hb:Below wr.heap.size wr w'):TR w' w N D t m k uv G X xs:=by
 have hg:=za6 hb (Nat.le_refl _) none
 have hs:=hb.size
 have hn:=h.bel.size
 have:=h.lt
 have:=h.le
 exact⟨h.row.kept hg (by simp),h.go.kept hg (by simp) (by simp) (.inl rfl),h.bel.trans (hb.mono (by omega)),h.ne,fun j=>(hg.frozen_far ⟨D,j,none⟩ h.lt (by simp)).trans (h.fr j),by omega,h.le,h.ne1,h.ne2⟩
theorem TR.cellAt {wr w:World}{N D t m k:Nat}{uv:Value}{G:Gl}{X:Nat→Int}{xs:List Value}(h:TR wr w N D t m k uv G X xs)(hm:m<4):∃v,wr.cell? ⟨D,m*5,none⟩=some v:=by
 have h1:=h.row (m*5) (by omega)
 have hs:(rowA (mixG G X m) t).size=20:=rfl
 rw[Array.getElem?_eq_getElem (by omega),Nat.zero_add] at h1
 exact⟨_,h1⟩
theorem TR.turn {wr w:World}{N D t m k:Nat}{uv:Value}{G:Gl}{X:Nat→Int}{xs:List Value}(hm:m<4)(h:TR wr w N D t m k uv G X xs):TR (wr.setCell ⟨D,m*5,none⟩ (.int .i64 (X (4*t+m)))) w N D t (m+1) k uv G X xs:=by
 have hg:=za1 wr D (m*5) (.int .i64 (X (4*t+m)))
 exact⟨h.row.turn hm,h.go.kept hg (by simpa using fun e=>h.ne1 e) (by simpa using fun e=>h.ne2 e) (.inr h.ne),h.bel.setCell (by exact h.le) _,h.ne,fun j=>by rw[World.frozen?_setCell];exact h.fr j,by simpa using h.lt,h.le,h.ne1,h.ne2⟩
theorem TR.skipF {wr w:World}{N D t m k:Nat}{uv:Value}{G:Gl}{X:Nat→Int}{xs:List Value}(hm:m<4)(hX:X (4*t+m)=G.tet (4*t+m))(h:TR wr w N D t m k uv G X xs):TR wr w N D t (m+1) k uv G X xs:=
 ⟨h.row.skipF hm hX,h.go,h.bel,h.ne,h.fr,h.lt,h.le,h.ne1,h.ne2⟩
theorem gluing_walk {G:Gl}(hok:za9 G=true){w:World}{B Cv B' X mb:Nat}{v pv bv:Value}{vv ev tv lv:Value}{dB rB sh:Nat}{f g:Nat→Nat→Int}(h:CV w B Cv B' X mb v pv bv G vv ev tv lv dB rB sh f g)(hB:B≤w.heap.size)(hG:GlAt w.heap.size w v G)
  (hf:∀k,k<nF G→∀i,i<sh→0≤f k i∧f k i<sh) (hg:∀k,k<nF G→∀i,i<sh→0≤g k i∧g k i<sh) (hsh:sh≤1000) (hsn:sh*G.n≤1000) :
  Calls Try.prog 45 #[.pointer (some ⟨Cv,0,none⟩)] w fun e w'=>∃u,e=.returned (.agg #[u])∧GlAt w'.heap.size w' u (covG G f g sh)∧Below w.heap.size w w':=by
 have hn:G.n≤1000:=by simp only[za9,Bool.and_eq_true,decide_eq_true_eq] at hok;exact hok.1
 have hs0:=h.sp.c0
 have hc0:=h.c0
 have hc1:=h.c1
 have HC:=Hd4 h hok hf hg;clear h hok hf hg
 have HG:=Lib.hid hG
 obtain⟨a,b,off,cap,rfl,hga,hgc⟩:=hG
 have HGC:=Hd2 hga hgc;clear hga hgc
 have hs0a:=za4 hs0
 have hc0a:=za4 hc0
 have hc1a:=za4 hc1
 have hs0b:=fun o o2=>za4 (za4 hs0 o) o2
 have hc0b:=fun o o2=>za4 (za4 hc0 o) o2
 have hc1b:=fun o o2=>za4 (za4 hc1 o) o2
 go_enter Try.func45,Try.ntmps45
 go_wp2
 refine zb3 fun W1 hW=>?_
 have h1:GO W1 w.heap.size (.slice none 0 0) 0 (gpre (covG G f g sh) 0)∧Below w.heap.size w W1:=by
  rw[hW];exact⟨⟨by simp[go_sem],by simp[go_sem],by simp[go_sem],by simp[go_sem],World.ownsRow_nil _ _ _ _,by simp[Value.ownBlock],by simp[Value.ownBlock]⟩,by (repeat' (first | assumption | exact Below.refl _ _ | refine za7 ?_ (by assumption) | refine zb2 ?_ _ | refine za5 ?_ | refine zb1 ?_ (by simp<;>omega) _))⟩
 clear hW hs0a hc0a hc1a hs0b hc0b hc1b
 generalize hN:w.heap.size=N at *
 have H1:=Lib.hid h1;clear h1
 go_loopw [24] (fun i wr=>∃(s:Nat) (uv:Value),s≤sh∧i=.int .i64 s∧GO wr N uv (s*G.n) (gpre (covG G f g sh) (s*G.n))∧Below N w wr) (fun i _=>sh-(intOf i).toNat)
 case atStart=>exact⟨0,_,by omega,rfl,by rw[Nat.zero_mul];exact H1.out.1,H1.out.2⟩
 case round=>
  clear H1
  obtain⟨s,uv,hs,rfl,hGO,hb⟩:=hrel
  have HK:=Hd2 hGO hb
  rcases Nat.lt_or_ge s sh with hss | hss
  ·have hbN:∀(bl o:Nat) (x:Value),w.cell? ⟨bl,o,none⟩=some x→wr.cell? ⟨bl,o,none⟩=some x:=fun bl o x hx=>(hb.cell (p:=⟨bl,o,none⟩) (by have:=za0 hx;simp only at this;show bl<N;omega)).trans hx
   have x0:=hbN _ _ _ hc0
   have x1:=hbN _ _ _ hs0
   clear hGO hb hbN
   go_wp2
   go_loopw [36] (fun i wr=>∃(t:Nat) (uv:Value),t≤G.n∧i=.int .i64 t∧GO wr N uv (s*G.n+t) (gpre (covG G f g sh) (s*G.n+t))∧Below N w wr) (fun i _=>G.n-(intOf i).toNat)
   case atStart=>exact⟨0,_,by omega,rfl,HK.out.1,HK.out.2⟩
   case round=>
    clear HK x0 x1
    obtain⟨t,uv,ht,rfl,hGO,hb⟩:=hrel
    have HK:=Hd2 hGO hb
    rcases Nat.lt_or_ge t G.n with htn | htn
    ·obtain⟨hga,hgc⟩:=HGC.out
     obtain⟨rfl,hbB⟩:=hga (by omega)
     have hrow:=ze5 (W:=wr) (b:=b) (off:=off) (fun k hk=>⟨(hb.cell (p:=⟨b,_,none⟩) (by show b<N;omega)).trans (hgc k hk).1,fun i hi=>(hb.cell (p:=⟨b,_,none⟩) (by show b<N;omega)).trans ((hgc k hk).2 i hi)⟩) t htn
     have hrg:=hrow.range
     have t0:0≤(t:Int):=by omega
     have tn:(t:Int)<(G.n:Int):=by omega
     clear hGO hb hga hgc hrow
     go_wp2_with (first|(refine zb8 rfl 88 (.tmp 39) rfl b (off+t*20) rfl (rowA G t) _ hrg Try.underlying88 rfl (by kernel_rfl) ?_)|(refine zc2 (w:=wr) rfl 88 (.tmp 7) (.tmp 40) rfl _ (rowA G t) rfl rfl (by kernel_rfl) rfl (zf9 G t) ?_)|(refine zf4 (w:=wr) rfl 88 (.tmp 7) rfl (rowA G t) 4 87 rfl Try.underlying88 (by kernel_rfl) ?_))
     refine zb3 fun W3 hW3=>?_
     obtain⟨D,hD⟩:∃D,D=wr.heap.size:=⟨_,rfl⟩
     have h3:TR W3 w N D t 0 (s*G.n+t) uv G (fun k=>(covG G f g sh).tet (4*(s*G.n)+k)) (gpre (covG G f g sh) (s*G.n+t)):=by
      have hs:=HK.out.2.size
      have hl:=za0 HK.out.1.c4
      simp only at hl
      subst hW3
      refine⟨?_,HK.out.1.alloc _,HK.out.2.alloc (by omega) _,?_,fun j=>?_,by rw[hD];simp,by omega,by omega,by omega⟩
      ·intro j hj;rw[mix_zero,hD,Nat.zero_add];exact World.cell?_alloc_at _ _ _ _ rfl
      ·rw[hD];intro e;have:=own_lt_size HK.out.1.own e;omega
      ·exact World.frozen?_alloc_at _ _ _ _ hD
     rw[←hD]
     have H3:=Lib.hid h3;clear h3 hW3 HK hD
     go_loopw [42] (fun i wr=>∃m:Nat,m≤4∧i=.int .i64 m∧TR wr w N D t m (s*G.n+t) uv G (fun k=>(covG G f g sh).tet (4*(s*G.n)+k)) (gpre (covG G f g sh) (s*G.n+t))) (fun i _=>4-(intOf i).toNat)
     case atStart=>exact⟨0,by omega,rfl,H3.out⟩
     case round=>
      clear H3
      obtain⟨m,hm,rfl,hR⟩:=hrel
      have HK:=Lib.hid hR
      clear hR
      rcases Nat.lt_or_ge m 4 with hm4 | hm4
      ·have hix:=fun w=>ze2 G t m hm4 w
       unfold faceA at hix
       have hcov:=covG_at G f g sh s t m htn hm4
       have e4:4*(s*G.n)+(4*t+m)=4*(s*G.n+t)+m:=by omega
       by_cases hneg:G.tet (4*t+m)<0
       ·have HX:=Lib.hid (show (covG G f g sh).tet (4*(s*G.n)+(4*t+m))=G.tet (4*t+m) by rw[e4,hcov.1,if_pos hneg])
        clear hcov e4
        generalize hT:G.tet (4*t+m)=T at *
        have HT:=Lib.hid hT;clear hT
        go_wp2
        go_roundw
        case rel=>
         refine⟨m+1,by omega,rfl,?_⟩
         exact (HK.out.skipF hm4 (by show _=_;rw[HX.out,HT.out])).below ((Below.refl _ _).alloc (Nat.le_refl _) _)
        case measure=>simp[intOf];omega
       ·obtain⟨hCV,hok,hf,hg⟩:=HC.out
        have hk:=fN_lt hok (show 4*t+m<4*G.n by omega)
        have hcr:0≤crF G f g t m s∧crF G f g t m s<sh:=by
         have h1:=hf _ hk s hss
         have h2:=hg _ hk s hss
         unfold crF;split
         ·exact h1
         ·exact h2
        obtain⟨tl,tl2,_⟩:=zc6 hok (show 4*t+m<4*G.n by omega) hneg
        obtain⟨σ,hσ⟩:∃σ:Nat,crF G f g t m s=σ:=⟨(crF G f g t m s).toNat,by omega⟩
        have HS:=Lib.hid hσ
        obtain⟨T,hT,hTn⟩:∃T:Nat,G.tet (4*t+m)=T∧T<G.n:=⟨_,tl,tl2⟩
        have hσs:σ<sh:=by omega
        have hpn:σ*G.n≤sh*G.n:=Nat.mul_le_mul_right _ (by omega)
        have HX:=Lib.hid (show (covG G f g sh).tet (4*(s*G.n)+(4*t+m))=((σ*G.n+T:Nat):Int) by rw[e4,hcov.1,if_neg hneg,hσ,hT];push_cast;rfl)
        obtain⟨PP,hPP⟩:∃PP:Nat,PP=σ*G.n:=⟨_,rfl⟩
        obtain⟨RR,hRR⟩:∃RR:Nat,RR=PP+T:=⟨_,rfl⟩
        rw[←hPP,←hRR] at HX
        have q1:IntKind.i64.wrap ((σ:Int)*(G.n:Int))=(PP:Int):=by rw[hPP];rw[IntWalk.i64_in _ (by push_cast at *;omega)];push_cast;rfl
        have q2:IntKind.i64.wrap ((PP:Int)+(T:Int))=(RR:Int):=by rw[IntWalk.i64_in _ (by omega)];omega
        have hTi:=Lib.hid hT
        rw[hT] at hix
        have T0:0≤(T:Int):=by omega
        obtain⟨E,hE⟩:∃E,E=wr.heap.size:=⟨_,rfl⟩
        have hlt:=HK.out.lt
        have hW4:∀ob,TR (wr.alloc ob) w N D t m (s*G.n+t) uv G (fun k=>(covG G f g sh).tet (4*(s*G.n)+k)) (gpre (covG G f g sh) (s*G.n+t)):=fun ob=>HK.out.below ((Below.refl _ _).alloc (Nat.le_refl _) _)
        have H4:=Lib.hid hW4
        have c0w:=fun ob=>(za5 (hW4 ob).bel).cell (p:=⟨Cv,0,none⟩) (by have:=za0 hc0;simp only at this;show Cv<N;omega)
        clear hW4 hcov e4 hneg hCV hf hg hk hcr tl tl2 hT hpn hPP hRR hok hσ
        go_wp2
        refine zb3 fun W4 hW=>?_
        have tr:TR W4 w N D t m (s*G.n+t) uv G (fun k=>(covG G f g sh).tet (4*(s*G.n)+k)) (gpre (covG G f g sh) (s*G.n+t)):=by rw[hW];exact H4.out _
        have cE:W4.cell? ⟨E,0,none⟩=some (.int .i64 (T:Int)):=by rw[hW];exact World.cell?_alloc_at _ _ _ _ hE
        have hED:E≠D:=by omega
        rw[←hE]
        have trd:=tr.below (za5 (Below.refl _ _))
        have cEd:W4.drew.cell? ⟨E,0,none⟩=some (.int .i64 (T:Int)):=cE
        have hEl:=za0 cE
        simp only at hEl
        have HD:=Lib.hid trd
        have m0:0≤(m:Int):=by omega
        have m4:(m:Int)<4:=by omega
        clear H4 hW c0w trd tr hE hlt cE hix HK
        have hC:=cross_walk HC.out.2.1 (HC.out.1.below (by omega) (hN▸HD.out.bel)) t m s htn hm4 hss
        rw[HS.out] at hC
        have hC56:=Lib.hid hC;clear hC
        go_region_held3 (fun w'=>w'.cell? ⟨E,0,none⟩=some (.int .i64 (T:Int)))
         (first
          | exact cEd
          | exact (HB1.out.cell (p:=⟨E,0,none⟩) (by exact hEl)).trans cEd
          | exact (World.cell?_setCell_other (a:=⟨D,m*5,none⟩) (b:=⟨E,0,none⟩) _ _ (by simp<;>omega)).trans ((HB1.out.cell (p:=⟨E,0,none⟩) (by exact hEl)).trans cEd))
         (first|(go_at_call 56;(with_reducible refine hC56.out.mono ?_);rintro e w1 ⟨rfl,hb⟩;obtain⟨v0,hv0⟩:=(HD.out.below hb).cellAt hm4;have fv0:=(HD.out.below hb).fr (m*5);have HB1:=Lib.hid hb;clear hb))
        go_wp2
        go_roundw
        case rel=>
         refine⟨m+1,by omega,rfl,?_⟩
         rw[←HX.out]
         exact (HD.out.below HB1.out).turn hm4
        case measure=>simp[intOf];omega
      ·obtain rfl:m=4:=by omega
       clear hm hm4
       obtain⟨ga,gp,rfl⟩:=za8 HK.out.go.own
       have y4:=HK.out.go.c4
       have f4:=HK.out.go.f4
       have hrow:=zb9.covered htn HK.out.row
       have hrg2:=zb9.range hrow
       have hkb:s*G.n+t+1≤1000:=by
        have:(s+1)*G.n≤sh*G.n:=Nat.mul_le_mul_right _ hss
        rw[Nat.succ_mul] at this;omega
       have hNs:=HK.out.bel.size
       have ownA:=HK.out.go.own.alloc (.cells (rowA (covG G f g sh) (s*G.n+t)) 88)
       have newsA:∀(j:Nat) (u:Value),(rowA (covG G f g sh) (s*G.n+t)).toList[j]?=some u→(wr.alloc (.cells (rowA (covG G f g sh) (s*G.n+t)) 88)).cell? ((⟨wr.heap.size,0,none⟩:Addr).add j)=some u:=
        World.news_of_block (cs:=rowA (covG G f g sh) (s*G.n+t)) (MapKept.heap_alloc wr _).1
       have oneA:=fun u (hu:u∈(rowA (covG G f g sh) (s*G.n+t)).toList)=>(Array.all_eq_true_iff_forall_mem.1 (zf9 (covG G f g sh) (s*G.n+t))) u (by simpa using hu)
       have y4a:=za4 y4
       have f4a:∀o,(wr.alloc o).frozen? ⟨N+1,0,none⟩=false:=fun o=>((World.grownBy_alloc wr o none).frozen_far ⟨N+1,0,none⟩ (za0 y4) (by simp)).trans f4
       have hne:=HK.out.go.ne
       obtain⟨i0,hi0,⟨z0,hz0,hzs⟩,hz1,hz2⟩:=info88
       have HA:=Hd6 ownA newsA oneA y4a f4a hne;clear ownA newsA oneA y4a f4a hrow hne
       go_wp2_with (first|(refine zb8 rfl 88 (.tmp 7) rfl D 0 rfl (rowA (covG G f g sh) (s*G.n+t)) _ hrg2 Try.underlying88 rfl (by kernel_rfl) ?_)|(refine Go.Great.wpList_buildSliceTo rfl 22 88 1 _ rfl wr.heap.size rfl (.tmp 66) rfl und22 (rowA (covG G f g sh) (s*G.n+t)) (built88 _ _) ?_)|(at_builtin;rw[fold88];refine (wpList_append_lies _ rfl (.tmp 64) (.tmp 66) 22 rfl N 88 i0 z0 20 160 und22 hi0 hz0 hz1 hz2 hzs (by omega) (.slice ga (s*G.n+t) gp) (s*G.n+t) _ rfl HA.out.1 ⟨wr.heap.size,0,none⟩ 1 1 (rowA (covG G f g sh) (s*G.n+t)).toList rfl rfl HA.out.2.1 HA.out.2.2.1 (by omega) (by unfold maxLen;omega) (by omega) (by simp;omega) (wr.heap.size+1) (by simp) ?_);intro g2 cp2 w1 r1 r2 r3 r4;have q1:=r2.cell (HA.out.2.2.2.1 _) (fun e=>HA.out.2.2.2.2.2.2 e.symm);have q2:=(r2.frozen_far ⟨N+1,0,none⟩ (za0 (HA.out.2.2.2.1 _)) (fun e=>HA.out.2.2.2.2.2.2 e.symm)).trans (HA.out.2.2.2.2.1 _);have H1:=Hd4 r1 r2 r3 r4;clear r1 r2 r3 r4))
       ·exfalso
        have hs20:(rowA (covG G f g sh) (s*G.n+t)).size=20:=rfl
        simp[hs20] at h
       go_roundw
       case rel=>
        obtain⟨r1,r2,r3,r4⟩:=H1.out
        refine⟨t+1,_,by omega,rfl,HK.out.go.push (World.grownBy_alloc _ _ _) r1 r2 (by simpa using r3),?_⟩
        exact ((HK.out.bel.alloc (by omega) _).grown r2 (by simp;omega) (fun k hk=>own_ge HK.out.go.own hk)).setCell (by show N≤N+1;omega) _
       case measure=>simp[intOf];omega
    ·obtain rfl:t=G.n:=by omega
     clear hGO hb
     go_wp2
     go_roundw
     case rel=>exact⟨s+1,uv,by omega,rfl,by rw[Nat.succ_mul];exact HK.out.1,HK.out.2⟩
     case measure=>simp[intOf];omega
  ·obtain rfl:s=sh:=by omega
   obtain⟨ga,gp,rfl⟩:=za8 hGO.own
   obtain⟨y2,y4,yf2,yf4,_,_⟩:=hGO
   clear hb
   go_wp2
   refine bodyPost_ret (v:=.agg #[.slice ga (s*G.n) gp]) (by simp[results,Try.results45,go_sem, *]) rfl ⟨_,rfl,?_,?_⟩
   case refine_2=>rw[hN];exact HK.out.2.setCell (by show N≤N;omega) _
   have hown:=HK.out.1.own
   have hne:=HK.out.1.ne
   have hkept:=hown.kept (za1 wr N 0 (.slice ga (s*G.n) gp)) (.inr hne.1)
   by_cases h0:s*G.n=0
   ·exact⟨ga,0,0,gp,by rw[show (covG G f g s).n=s*G.n from rfl],fun hp=>by exfalso;have:(covG G f g s).n=s*G.n:=rfl;omega,fun k hk=>by exfalso;have:(covG G f g s).n=s*G.n:=rfl;omega⟩
   ·obtain⟨g2,c2,hv,_⟩:=hkept.form (by omega)
    have hv':=hv
    simp only[Value.slice.injEq,true_and] at hv'
    obtain⟨rfl,rfl⟩:=hv'
    refine GlAt.of_cells (G:=covG G f g s) (own_lt_size hkept rfl) (fun j u hu=>?_)
    have:=hkept.cells (g:=g2) rfl j u hu
    rwa [Addr.add_mid,Nat.zero_add] at this
end
section
open Go.RowKit Go.Shelf
def seenF (p:Nat→Int)(k j:Nat):Bool:=(List.range k).any fun i=>p i==(j:Int)
theorem seenF_succ (p:Nat→Int)(k j:Nat):seenF p (k+1) j=(seenF p k j || p k==(j:Int)):=by simp[seenF,List.range_succ]
def validR (p:Nat→Int):Bool:=(List.range 4).all fun k=>inB (p k) && !seenF p k (p k).toNat
theorem validR_false {p:Nat→Int}{k:Nat}(hk:k<4)(h:(inB (p k) && !seenF p k (p k).toNat)=false):validR p=false:=all_range_false (p:=fun k=>inB (p k) && !seenF p k (p k).toNat) hk h
theorem zf0 (p:Nat→Int)(w:World) :
  Calls Try.prog 63 #[.agg (P4 p)] w fun e w'=>e=.returned (.bool (validR p))∧Below w.heap.size w w':=by
 unfold P4
 go_enter Try.func63,Try.ntmps63
 go_wp2
 refine zb3 fun W1 hW=>?_
 have h1:(∀i,i<4→W1.cell? ⟨w.heap.size,i,none⟩=some (.int .i64 (p i)))∧(∀j,j<4→W1.cell? ⟨w.heap.size+1,j,none⟩=some (.bool (seenF p 0 j)))∧(∀j,W1.frozen? ⟨w.heap.size+1,j,none⟩=false)∧Below w.heap.size w W1:=by
  rw[hW]
  refine⟨fun i hi=>?_,fun j hj=>?_,fun j=>by simp[go_sem],by (repeat' (first | assumption | exact Below.refl _ _ | refine za7 ?_ (by assumption) | refine zb2 ?_ _ | refine za5 ?_ | refine zb1 ?_ (by simp<;>omega) _))⟩
  ·match i,hi with
   | 0,_=>simp[go_sem]
   | 1,_=>simp[go_sem]
   | 2,_=>simp[go_sem]
   | 3,_=>simp[go_sem]
  ·match j,hj with
   | 0,_=>simp[go_sem,seenF]
   | 1,_=>simp[go_sem,seenF]
   | 2,_=>simp[go_sem,seenF]
   | 3,_=>simp[go_sem,seenF]
 have H1:=Lib.hid h1;clear h1 hW
 obtain⟨N,hN⟩:∃N,w.heap.size=N:=⟨_,rfl⟩
 have HN:=Lib.hid hN
 rw[hN] at H1 ⊢
 clear hN
 go_loopw [4] (fun i wr=>∃k:Nat,k≤4∧i=.int .i64 k∧(List.range k).all (fun k=>inB (p k) && !seenF p k (p k).toNat)=true∧(∀i,i<4→wr.cell? ⟨N,i,none⟩=some (.int .i64 (p i)))∧(∀j,j<4→wr.cell? ⟨N+1,j,none⟩=some (.bool (seenF p k j)))∧(∀j,wr.frozen? ⟨N+1,j,none⟩=false)∧Below N w wr) (fun i _=>4-(intOf i).toNat)
 case atStart=>exact⟨0,by omega,rfl,rfl,H1.out⟩
 case round=>
  clear H1
  obtain⟨k,hk,rfl,hall,hp,hs,hf,hb⟩:=hrel
  have HK:=Hd5 hall hp hs hf hb
  rcases Nat.lt_or_ge k 4 with hk4 | hk4
  ·have k0:0≤(k:Int):=by omega
   have k4:(k:Int)<4:=by omega
   have x:=hp k hk4
   clear hp hall hb
   by_cases hin:inB (p k)=true
   ·obtain⟨c,hc⟩:∃c:Nat,p k=c:=⟨(p k).toNat,by have:=zf2.1 hin;omega⟩
    have hc4:c<4:=by have:=zf2.1 hin;omega
    have c0:0≤(c:Int):=by omega
    have c4:(c:Int)<4:=by omega
    have y:=hs c hc4
    have fy:=hf c
    rw[hc] at x
    have HC:=Hd2 hin hc
    clear hs hf hin hc
    have c3:(c:Int)≤3:=by omega
    cases hsn:seenF p k c with
    | true=>
     rw[hsn] at y
     have HS:=Lib.hid hsn;clear hsn
     go_wp2
     go_ret
     exact⟨by rw[validR_false hk4 (by rw[HC.out.2,Int.toNat_natCast,HS.out];simp)];rfl,HN.out▸HK.out.2.2.2.2⟩
    | false=>
     rw[hsn] at y
     have HS:=Lib.hid hsn;clear hsn
     go_wp2
     go_roundw
     case rel => 
      obtain⟨ha,hp,hs,hf,hb⟩:=HK.out
      refine⟨k+1,by omega,rfl,?_,fun i hi=>(World.cell?_setCell_other (a:=⟨N+1,c,none⟩) (b:=⟨N,i,none⟩) _ _ (by simp)).trans (hp i hi),fun j hj=>?_,fun j=>by rw[World.frozen?_setCell];exact hf j,hb.setCell (by show N≤N+1;omega) _⟩
      ·rw[List.range_succ,List.all_append,ha]
       have hi:=HC.out.1
       rw[HC.out.2] at hi
       simp[hi,HC.out.2,HS.out]
      ·rw[seenF_succ,HC.out.2]
       by_cases e:j=c
       ·subst e
        rw[World.cell?_setCell_same _ _ _ (hs j hj)];simp
       ·rw[World.cell?_setCell_other (a:=⟨N+1,c,none⟩) (b:=⟨N+1,j,none⟩) _ _ (by simp<;>omega),hs j hj]
        have:((c:Int)==(j:Int))=false:=by simp;omega
        rw[this,Bool.or_false]
     case measure=>simp[intOf];omega
   ·have HI:=Lib.hid hin
    rw[zf2] at hin
    clear hs hf
    rcases Int.lt_or_le (p k) 0 with hneg | hneg
    ·go_wp2
     go_ret
     exact⟨by rw[validR_false hk4 (by rw[Bool.eq_false_iff.2 HI.out];simp)];rfl,HN.out▸HK.out.2.2.2.2⟩
    ·have hbig:3<p k:=by omega
     go_wp2
     go_ret
     exact⟨by rw[validR_false hk4 (by rw[Bool.eq_false_iff.2 HI.out];simp)];rfl,HN.out▸HK.out.2.2.2.2⟩
  ·obtain rfl:k=4:=by omega
   clear hp hs hf hall hb
   go_wp2
   go_ret
   exact⟨by rw[validR,HK.out.1];rfl,HN.out▸HK.out.2.2.2.2⟩
end
section
open Go.RowKit Go.Shelf
theorem validR_in {p:Nat→Int}(h:validR p=true):∀i,i<4→inB (p i)=true:=fun i hi=>by
 have:=List.all_eq_true.1 h i (List.mem_range.2 hi)
 simp only[Bool.and_eq_true] at this
 exact this.1
theorem inverseR_walk (p:Nat→Int)(w:World)(hv:validR p=true) :
  Calls Try.prog 64 #[.agg (P4 p)] w fun e w'=>e=.returned (.agg (P4 (invF p)))∧Below w.heap.size w w':=by
 have HI:=Lib.hid (validR_in hv)
 have hS:=fun W=>zf0 p W
 rw[hv] at hS
 unfold P4 at hS
 have HS:=Lib.hid hS;clear hS hv
 unfold P4
 go_enter Try.func64,Try.ntmps64
 go_wp2_with (go_at_call 63;(with_reducible refine (HS.out _).mono ?_);rintro e w1 ⟨rfl,hb⟩;have HB:=Lib.hid hb;clear hb)
 have h1:(∀i,i<4→w1.cell? ⟨w.heap.size,i,none⟩=some (.int .i64 (p i)))∧(∀j,j<4→w1.cell? ⟨w.heap.size+1,j,none⟩=some (.int .i64 0))∧(∀j,j<4→w1.cell? ⟨w.heap.size+2,j,none⟩=some (.int .i64 (invK p 0 j)))∧(∀j,w1.frozen? ⟨w.heap.size+1,j,none⟩=false)∧(∀j,w1.frozen? ⟨w.heap.size+2,j,none⟩=false)∧Below w.heap.size w w1:=by
  have hb:=HB.out
  refine⟨fun i hi=>(hb.cell (p:=⟨w.heap.size,i,none⟩) (by simp<;>omega)).trans ?_,fun j hj=>(hb.cell (p:=⟨w.heap.size+1,j,none⟩) (by simp<;>omega)).trans ?_,fun j hj=>(hb.cell (p:=⟨w.heap.size+2,j,none⟩) (by simp<;>omega)).trans ?_,fun j=>(hb.frozen (p:=⟨w.heap.size+1,j,none⟩) (by simp<;>omega)).trans (by simp[go_sem]),fun j=>(hb.frozen (p:=⟨w.heap.size+2,j,none⟩) (by simp<;>omega)).trans (by simp[go_sem]),?_⟩
  ·match i,hi with
   | 0,_=>simp[go_sem]
   | 1,_=>simp[go_sem]
   | 2,_=>simp[go_sem]
   | 3,_=>simp[go_sem]
  ·match j,hj with
   | 0,_=>simp[go_sem]
   | 1,_=>simp[go_sem]
   | 2,_=>simp[go_sem]
   | 3,_=>simp[go_sem]
  ·match j,hj with
   | 0,_=>simp[go_sem,invK]
   | 1,_=>simp[go_sem,invK]
   | 2,_=>simp[go_sem,invK]
   | 3,_=>simp[go_sem,invK]
  ·exact Below.trans (by (repeat' (first | assumption | exact Below.refl _ _ | refine za7 ?_ (by assumption) | refine zb2 ?_ _ | refine za5 ?_ | refine zb1 ?_ (by simp<;>omega) _))) (hb.mono (by simp<;>omega))
 have H1:=Lib.hid h1;clear h1 HB
 obtain⟨N,hN⟩:∃N,w.heap.size=N:=⟨_,rfl⟩
 have HN:=Lib.hid hN
 rw[hN] at H1 ⊢
 clear hN
 go_loopw [4] (fun i wr=>∃k:Nat,k≤4∧i=.int .i64 k∧(∀i,i<4→wr.cell? ⟨N,i,none⟩=some (.int .i64 (p i)))∧(∀j,j<4→wr.cell? ⟨N+1,j,none⟩=some (.int .i64 0))∧(∀j,j<4→wr.cell? ⟨N+2,j,none⟩=some (.int .i64 (invK p k j)))∧(∀j,wr.frozen? ⟨N+1,j,none⟩=false)∧(∀j,wr.frozen? ⟨N+2,j,none⟩=false)∧Below N w wr) (fun i _=>4-(intOf i).toNat)
 case atStart=>exact⟨0,by omega,rfl,H1.out⟩
 case round=>
  clear H1
  obtain⟨k,hk,rfl,hp,hr,hs,fr,fs,hb⟩:=hrel
  have HK:=Hd6 hp hr hs fr fs hb
  rcases Nat.lt_or_ge k 4 with hk4 | hk4
  ·have k0:0≤(k:Int):=by omega
   have k4:(k:Int)<4:=by omega
   have x:=hp k hk4
   obtain⟨c,hc⟩:∃c:Nat,p k=c:=⟨(p k).toNat,by have:=zf2.1 (HI.out k hk4);omega⟩
   have hc4:c<4:=by have:=zf2.1 (HI.out k hk4);omega
   have c0:0≤(c:Int):=by omega
   have c4:(c:Int)<4:=by omega
   have y:=hs c hc4
   have fy:=fs c
   rw[hc] at x
   have HC:=Lib.hid hc
   clear hp hr hs fr fs hb hc
   go_wp2
   go_roundw
   case rel=>
    obtain⟨hp,hr,hs,fr,fs,hb⟩:=HK.out
    refine⟨k+1,by omega,rfl,fun i hi=>(World.cell?_setCell_other (a:=⟨N+2,c,none⟩) (b:=⟨N,i,none⟩) _ _ (by simp)).trans (hp i hi),fun i hi=>(World.cell?_setCell_other (a:=⟨N+2,c,none⟩) (b:=⟨N+1,i,none⟩) _ _ (by simp)).trans (hr i hi),fun j hj=>?_,fun j=>by rw[World.frozen?_setCell];exact fr j,fun j=>by rw[World.frozen?_setCell];exact fs j,hb.setCell (by show N≤N+2;omega) _⟩
    have hu:invK p (k+1) j=if j=c then (k:Int) else invK p k j:=by simp only[invK,upd,HC.out,Int.toNat_natCast]
    rw[hu]
    by_cases e:j=c
    ·subst e
     rw[World.cell?_setCell_same _ _ _ (hs j hj),if_pos rfl]
    ·rw[World.cell?_setCell_other (a:=⟨N+2,c,none⟩) (b:=⟨N+2,j,none⟩) _ _ (by simp<;>omega),hs j hj,if_neg e]
   case measure=>simp[intOf];omega
  ·obtain rfl:k=4:=by omega
   have a0:=hs 0 (by omega)
   have a1:=hs 1 (by omega)
   have a2:=hs 2 (by omega)
   have a3:=hs 3 (by omega)
   have b0:=hr 0 (by omega)
   have b1:=hr 1 (by omega)
   have b2:=hr 2 (by omega)
   have b3:=hr 3 (by omega)
   have e0:=fr 0
   have e1:=fr 1
   have e2:=fr 2
   have e3:=fr 3
   clear hp hr hs fr fs hb
   go_wp2
   refine bodyPost_ret (v:=.agg (P4 (invK p 4))) (by simp[results,Try.results64,go_sem,P4, *]) rfl ⟨rfl,?_⟩
   rw[HN.out]
   exact (((HK.out.2.2.2.2.2.setCell (by show N≤N+1;omega) _).setCell (by show N≤N+1;omega) _).setCell (by show N≤N+1;omega) _).setCell (by show N≤N+1;omega) _
end
section
open Go.RowKit Go.Shelf Go.Sort
theorem validR_of {p:Nat→Int}(h1:∀i,i<4→inB (p i)=true)(h2:∀i j,i<4→j<4→i≠j→p i≠p j):validR p=true:=by
 rw[validR,List.all_eq_true]
 intro k hk
 have hk:=List.mem_range.1 hk
 rw[Bool.and_eq_true]
 refine⟨h1 k hk,?_⟩
 rw[Bool.not_eq_true',seenF,Bool.eq_false_iff]
 intro hs
 obtain⟨i,hi,e⟩:=List.any_eq_true.1 hs
 have hi:=List.mem_range.1 hi
 have:=(zf2.1 (h1 k hk)).1
 exact h2 i k (by omega) hk (by omega) (by have:=eq_of_beq e;omega)
theorem checkR_valid {G:Gl}(hok:za9 G=true){k:Nat}(hk:k<4*G.n)(hneg:¬G.tet k<0):validR (G.pm k)=true:=by
 obtain⟨_,_,e⟩:=zc6 hok hk hneg
 have hi:=ok_inj hok hk hneg
 refine validR_of (fun i hi=>zf2.2 ?_) (fun i j h1 h2 h3=>?_)
 ·have:=e i hi;omega
 ·have:=e i h1;have:=e j h2;have:=hi i j h1 h2 h3;omega
def zd3 (T:Int)(pm:Nat→Int):Array Value:=#[.int .i64 T,.int .i64 (pm 0),.int .i64 (pm 1),.int .i64 (pm 2),.int .i64 (pm 3)]
theorem zf8 (T:Int)(pm:Nat→Int)(f:Nat)(hf:f<4):(zd3 T pm)[1+f]?=some (.int .i64 (pm f)):=by
 match f,hf with
 | 0,_=>rfl
 | 1,_=>rfl
 | 2,_=>rfl
 | 3,_=>rfl
theorem copied {w wr W W':World}{N:Nat}{T:Int}{pm:Nat→Int}(hNs:N≤wr.heap.size)(hbw:Below N w wr)(hWe:W=wr.alloc (.cells (zd3 T pm) 87))(hb1:Below W.heap.size W W') :
  (∀a x,wr.cell? a=some x→W'.cell? a=some x)∧(∀j x,(zd3 T pm)[j]?=some x→W'.cell? ⟨wr.heap.size,j,none⟩=some x)∧Below N w W':=by
 have hWs:W.heap.size=wr.heap.size+1:=by rw[hWe];simp
 refine⟨fun a x h=>?_,fun j x h=>?_,?_⟩
 ·have hl:=za0 h
  have h2:=za4 h (.cells (zd3 T pm) 87)
  rw[←hWe] at h2
  exact (hb1.cell (p:=a) (by omega)).trans h2
 ·refine (hb1.cell (p:=⟨wr.heap.size,j,none⟩) (by show wr.heap.size<_;omega)).trans ?_
  rw[hWe,World.cell?_alloc_at _ _ _ _ rfl];exact h
 ·have hBW:Below N w W:=by rw[hWe];exact hbw.alloc hNs _
  exact hBW.trans (hb1.mono (by omega))
theorem checkR_walk {G:Gl}(hok:za9 G=true)(w:World)(v:Value)(hG:GlAt w.heap.size w v G) :
  Calls Try.prog 24 #[.agg #[v]] w fun e w'=>e=.returned (.int .i64 0)∧Below w.heap.size w w':=by
 have hn:G.n≤1000:=by simp only[za9,Bool.and_eq_true,decide_eq_true_eq] at hok;exact hok.1
 have hall:∀k,k<4*G.n→okB G k=true:=by
  simp only[za9,Bool.and_eq_true,List.all_eq_true,List.mem_range] at hok;exact hok.2
 have HO:=Hd2 hok hall;clear hok hall
 obtain⟨a,b,off,cap,rfl,hga,hgc⟩:=hG
 have HGC:=Hd2 hga hgc;clear hga hgc
 go_enter Try.func24,Try.ntmps24
 go_wp2
 refine zb3 fun W1 hW=>?_
 have h1:W1.cell? ⟨w.heap.size,0,none⟩=some (.slice a G.n cap)∧Below w.heap.size w W1:=by
  rw[hW];exact⟨by simp[go_sem],by (repeat' (first | assumption | exact Below.refl _ _ | refine za7 ?_ (by assumption) | refine zb2 ?_ _ | refine za5 ?_ | refine zb1 ?_ (by simp<;>omega) _))⟩
 have H1:=Lib.hid h1;clear h1 hW
 obtain⟨N,hN⟩:∃N,w.heap.size=N:=⟨_,rfl⟩
 have HN:=Lib.hid hN
 rw[hN] at H1 HGC ⊢
 clear hN
 go_loopw [4] (fun i wr=>∃t:Nat,t≤G.n∧i=.int .i64 t∧wr.cell? ⟨N,0,none⟩=some (.slice a G.n cap)∧Below N w wr) (fun i _=>G.n-(intOf i).toNat)
 case atStart=>exact⟨0,by omega,rfl,H1.out⟩
 case round=>
  clear H1
  obtain⟨t,ht,rfl,hc,hb⟩:=hrel
  have HK:=Hd2 hc hb
  rcases Nat.lt_or_ge t G.n with htn | htn
  ·obtain⟨hga,hgc⟩:=HGC.out
   obtain⟨rfl,hbB⟩:=hga (by omega)
   clear hc hb hga hgc
   go_wp2
   go_loopw [5] (fun i wr=>∃f:Nat,f≤4∧i=.int .i64 f∧wr.cell? ⟨N,0,none⟩=some (.slice (some ⟨b,off,none⟩) G.n cap)∧Below N w wr) (fun i _=>4-(intOf i).toNat)
   case atStart=>exact⟨0,by omega,rfl,HK.out⟩
   case round=>
    clear HK
    obtain⟨f,hf,rfl,hc,hb⟩:=hrel
    have HK:=Hd2 hc hb
    rcases Nat.lt_or_ge f 4 with hf4 | hf4
    ·have hk:4*t+f<4*G.n:=by omega
     obtain⟨hga,hgc⟩:=HGC.out
     have hbN:∀o x,w.cell? ⟨b,o,none⟩=some x→wr.cell? ⟨b,o,none⟩=some x:=fun o x hx=>(hb.cell (p:=⟨b,o,none⟩) (by exact hbB)).trans hx
     have hkk:=hgc (4*t+f) hk
     rw[show off+5*(4*t+f)=off+t*20+f*5 by omega] at hkk
     have p:=hbN _ _ hkk.1
     have p0:wr.cell? ⟨b,off+t*20+f*5+1,none⟩=some (.int .i64 (G.pm (4*t+f) 0)):=hbN _ _ (hkk.2 0 (by omega))
     have p1:wr.cell? ⟨b,off+t*20+f*5+2,none⟩=some (.int .i64 (G.pm (4*t+f) 1)):=hbN _ _ (hkk.2 1 (by omega))
     have p2:wr.cell? ⟨b,off+t*20+f*5+3,none⟩=some (.int .i64 (G.pm (4*t+f) 2)):=hbN _ _ (hkk.2 2 (by omega))
     have p3:wr.cell? ⟨b,off+t*20+f*5+4,none⟩=some (.int .i64 (G.pm (4*t+f) 3)):=hbN _ _ (hkk.2 3 (by omega))
     have t0:0≤(t:Int):=by omega
     have tn:(t:Int)<(G.n:Int):=by omega
     have f0:0≤(f:Int):=by omega
     have f4:(f:Int)<4:=by omega
     have hokk:=HO.out.2 (4*t+f) hk
     by_cases hno:noneB G (4*t+f)=true
     ·simp only[noneB,all4,Bool.and_eq_true,beq_iff_eq] at hno
      obtain⟨n1,⟨⟨n2,n3⟩,n4⟩,n5⟩:=hno
      rw[n1] at p
      rw[n2] at p0
      rw[n3] at p1
      rw[n4] at p2
      rw[n5] at p3
      have he:∀w,(Op.equalIn 10000 85 (.agg #[.int .i64 0,.int .i64 0,.int .i64 0,.int .i64 0]) (.agg #[.int .i64 0,.int .i64 0,.int .i64 0,.int .i64 0])).run Try.prog w=.ok true w:=fun w=>run_equal_P4r 9998 0 0 0 0 w
      clear hga hgc hbN hkk hokk n1 n2 n3 n4 n5 hb
      go_wp2
      go_roundw
      case rel=>exact⟨f+1,by omega,rfl,za4 HK.out.1 _,HK.out.2.alloc (by have:=HK.out.2.size;have:=HN.out;omega) _⟩
      case measure=>simp[intOf];omega
     ·have hno':noneB G (4*t+f)=false:=by simpa using hno
      have km:(4*t+f) % 4=f:=by omega
      have kd:(4*t+f) / 4=t:=by omega
      simp only[okB,hno',Bool.false_or,Bool.and_eq_true,Bool.not_eq_true',inTetB,decide_eq_true_eq] at hokk
      obtain⟨⟨⟨⟨h0,h1⟩,hvf⟩,hsf⟩,hmt⟩:=hokk
      have hvr:=checkR_valid HO.out.1 hk (by omega)
      have hin:=zf2.1 (validR_in hvr f hf4)
      have hbk:G.back (4*t+f)<4*G.n:=by unfold Gl.back;rw[km];omega
      have hcj:=hgc (G.back (4*t+f)) hbk
      have ea:off+5*G.back (4*t+f)=off+(G.tet (4*t+f)).toNat*20+(G.pm (4*t+f) f).toNat*5:=by unfold Gl.back;rw[km];omega
      rw[ea] at hcj
      obtain⟨J,hJ⟩:∃J,J=G.back (4*t+f):=⟨_,rfl⟩
      rw[←hJ] at hcj
      have g0:=hbN _ _ hcj.1
      have g1:=hbN _ _ (hcj.2 0 (by omega))
      have g2:=hbN _ _ (hcj.2 1 (by omega))
      have g3:=hbN _ _ (hcj.2 2 (by omega))
      have g4:=hbN _ _ (hcj.2 3 (by omega))
      have hme:(G.tet J==(t:Int) && (G.pm J 0==invF (G.pm (4*t+f)) 0 && (G.pm J 1==invF (G.pm (4*t+f)) 1 && (G.pm J 2==invF (G.pm (4*t+f)) 2 && G.pm J 3==invF (G.pm (4*t+f)) 3))))=true:=by
       have h:=hmt
       rw[matchB,←hJ,kd] at h
       have hpp:G.p (4*t+f)=G.pm (4*t+f):=rfl
       rw[hpp] at h
       simpa [all4,Bool.and_assoc] using h
      have hsf2:(G.tet (4*t+f)==(t:Int) && G.pm (4*t+f) f==(f:Int))=false:=by rw[selfB,km,kd] at hsf;exact hsf
      have dm1:(G.tet (4*t+f)==-1)=false:=by simp;omega
      have d0:decide (G.tet (4*t+f)<0)=false:=by simpa using h0
      have d1:decide ((G.n:Int)≤G.tet (4*t+f))=false:=by simpa using h1
      have hy0:=hin.1
      have hy1:G.pm (4*t+f) f<4:=by omega
      have cV:=fun W=>zf0 (G.pm (4*t+f)) W
      rw[hvr] at cV
      have cI:=fun W=>inverseR_walk (G.pm (4*t+f)) W hvr
      unfold P4 at cV cI
      have HV:=Hd2 cV cI
      have HM:=Lib.hid hme
      obtain⟨D,hD⟩:∃D,D=wr.heap.size:=⟨_,rfl⟩
      have hND:N≤D:=by have:=HK.out.2.size;have:=HN.out;omega
      clear hga hgc hbN hkk hno hno' hvf hsf hmt hvr hin hcj ea hJ hme cV cI hb hbk
      have hE:((G.tet (4*t+f)==(t:Int))=true∧(G.pm (4*t+f) f==(f:Int))=false)∨(G.tet (4*t+f)==(t:Int))=false:=by
       cases h:(G.tet (4*t+f)==(t:Int)) with
       | true=>rw[h,Bool.true_and] at hsf2;exact .inl ⟨rfl,hsf2⟩
       | false=>exact .inr rfl
      clear hsf2
      have hX:∀(W W':World),W=wr.alloc (.cells #[.int .i64 (G.tet (4*t+f)),.int .i64 (G.pm (4*t+f) 0),.int .i64 (G.pm (4*t+f) 1),.int .i64 (G.pm (4*t+f) 2),.int .i64 (G.pm (4*t+f) 3)] 87)→Below W.heap.size W W'→W'.cell? ⟨wr.heap.size,0,none⟩=some (.int .i64 (G.tet (4*t+f)))∧W'.cell? ⟨wr.heap.size,1,none⟩=some (.int .i64 (G.pm (4*t+f) 0))∧W'.cell? ⟨wr.heap.size,2,none⟩=some (.int .i64 (G.pm (4*t+f) 1))∧W'.cell? ⟨wr.heap.size,3,none⟩=some (.int .i64 (G.pm (4*t+f) 2))∧W'.cell? ⟨wr.heap.size,4,none⟩=some (.int .i64 (G.pm (4*t+f) 3))∧W'.cell? ⟨wr.heap.size,1+f,none⟩=some (.int .i64 (G.pm (4*t+f) f))∧W'.cell? ⟨N,0,none⟩=some (.slice (some ⟨b,off,none⟩) G.n cap)∧(W'.cell? ⟨b,off+(G.tet (4*t+f)).toNat*20+(G.pm (4*t+f) f).toNat*5,none⟩=some (.int .i64 (G.tet J))∧W'.cell? ⟨b,off+(G.tet (4*t+f)).toNat*20+(G.pm (4*t+f) f).toNat*5+1,none⟩=some (.int .i64 (G.pm J 0))∧W'.cell? ⟨b,off+(G.tet (4*t+f)).toNat*20+(G.pm (4*t+f) f).toNat*5+2,none⟩=some (.int .i64 (G.pm J 1))∧W'.cell? ⟨b,off+(G.tet (4*t+f)).toNat*20+(G.pm (4*t+f) f).toNat*5+3,none⟩=some (.int .i64 (G.pm J 2))∧W'.cell? ⟨b,off+(G.tet (4*t+f)).toNat*20+(G.pm (4*t+f) f).toNat*5+4,none⟩=some (.int .i64 (G.pm J 3)))∧Below N w W':=by
       intro W W' hWe hb1
       obtain⟨hold,hnew,hB⟩:=copied (pm:=G.pm (4*t+f)) (by have:=HK.out.2.size;have:=HN.out;omega) HK.out.2 hWe hb1
       exact⟨hnew 0 _ rfl,hnew 1 _ rfl,hnew 2 _ rfl,hnew 3 _ rfl,hnew 4 _ rfl,hnew _ _ (zf8 _ _ f hf4),hold _ _ HK.out.1,⟨hold _ _ g0,hold _ _ g1,hold _ _ g2,hold _ _ g3,hold _ _ g4⟩,hB⟩
      have HX:=Lib.hid hX
      clear hX g0 g1 g2 g3 g4
      rcases hE with ⟨e1,e2⟩ | e1
      ·go_wp2_with (go_at_call 63;(with_reducible refine (HV.out.1 _).mono ?_);rintro e w1 ⟨rfl,hb1⟩;obtain⟨x0,x1,x2,x3,x4,xf,xc,xg,xb⟩:=HX.out _ _ rfl hb1;have H1:=Hd3 xg xb hb1;clear hb1 xg xb)
       obtain⟨⟨g0,g1,g2,g3,g4⟩,xb,hb1⟩:=H1.out
       replace x0:w1.drew.cell? ⟨wr.heap.size,0,none⟩=some (.int .i64 (G.tet (4*t+f))):=x0
       replace x1:w1.drew.cell? ⟨wr.heap.size,1,none⟩=some (.int .i64 (G.pm (4*t+f) 0)):=x1
       replace x2:w1.drew.cell? ⟨wr.heap.size,2,none⟩=some (.int .i64 (G.pm (4*t+f) 1)):=x2
       replace x3:w1.drew.cell? ⟨wr.heap.size,3,none⟩=some (.int .i64 (G.pm (4*t+f) 2)):=x3
       replace x4:w1.drew.cell? ⟨wr.heap.size,4,none⟩=some (.int .i64 (G.pm (4*t+f) 3)):=x4
       replace xf:w1.drew.cell? ⟨wr.heap.size,1+f,none⟩=some (.int .i64 (G.pm (4*t+f) f)):=xf
       replace xc:w1.drew.cell? ⟨N,0,none⟩=some (.slice (some ⟨b,off,none⟩) G.n cap):=xc
       replace g0:w1.drew.cell? ⟨b,off+(G.tet (4*t+f)).toNat*20+(G.pm (4*t+f) f).toNat*5,none⟩=some (.int .i64 (G.tet J)):=g0
       replace g1:w1.drew.cell? ⟨b,off+(G.tet (4*t+f)).toNat*20+(G.pm (4*t+f) f).toNat*5+1,none⟩=some (.int .i64 (G.pm J 0)):=g1
       replace g2:w1.drew.cell? ⟨b,off+(G.tet (4*t+f)).toNat*20+(G.pm (4*t+f) f).toNat*5+2,none⟩=some (.int .i64 (G.pm J 1)):=g2
       replace g3:w1.drew.cell? ⟨b,off+(G.tet (4*t+f)).toNat*20+(G.pm (4*t+f) f).toNat*5+3,none⟩=some (.int .i64 (G.pm J 2)):=g3
       replace g4:w1.drew.cell? ⟨b,off+(G.tet (4*t+f)).toNat*20+(G.pm (4*t+f) f).toNat*5+4,none⟩=some (.int .i64 (G.pm J 3)):=g4
       have lx0:=za0 x0
       have lx1:=za0 x1
       have lx2:=za0 x2
       have lx3:=za0 x3
       have lx4:=za0 x4
       have lxf:=za0 xf
       have lxc:=za0 xc
       have lg0:=za0 g0
       have lg1:=za0 g1
       have lg2:=za0 g2
       have lg3:=za0 g3
       have lg4:=za0 g4
       simp only at lx0 lx1 lx2 lx3 lx4 lxf lxc lg0 lg1 lg2 lg3 lg4
       have HB:=Lib.hid (za5 xb)
       clear xb hb1
       have he2:=fun w=>zc5 (G.tet J) (t:Int) (G.pm J 0) (G.pm J 1) (G.pm J 2) (G.pm J 3) (invF (G.pm (4*t+f)) 0) (invF (G.pm (4*t+f)) 1) (invF (G.pm (4*t+f)) 2) (invF (G.pm (4*t+f)) 3) w
       simp only[HM.out] at he2
       go_region_held3 (fun w'=>w'.cell? ⟨wr.heap.size,0,none⟩=some (.int .i64 (G.tet (4*t+f)))∧w'.cell? ⟨wr.heap.size,1,none⟩=some (.int .i64 (G.pm (4*t+f) 0))∧w'.cell? ⟨wr.heap.size,2,none⟩=some (.int .i64 (G.pm (4*t+f) 1))∧w'.cell? ⟨wr.heap.size,3,none⟩=some (.int .i64 (G.pm (4*t+f) 2))∧w'.cell? ⟨wr.heap.size,4,none⟩=some (.int .i64 (G.pm (4*t+f) 3))∧w'.cell? ⟨wr.heap.size,1+f,none⟩=some (.int .i64 (G.pm (4*t+f) f))∧w'.cell? ⟨N,0,none⟩=some (.slice (some ⟨b,off,none⟩) G.n cap)∧w'.cell? ⟨b,off+(G.tet (4*t+f)).toNat*20+(G.pm (4*t+f) f).toNat*5,none⟩=some (.int .i64 (G.tet J))∧w'.cell? ⟨b,off+(G.tet (4*t+f)).toNat*20+(G.pm (4*t+f) f).toNat*5+1,none⟩=some (.int .i64 (G.pm J 0))∧w'.cell? ⟨b,off+(G.tet (4*t+f)).toNat*20+(G.pm (4*t+f) f).toNat*5+2,none⟩=some (.int .i64 (G.pm J 1))∧w'.cell? ⟨b,off+(G.tet (4*t+f)).toNat*20+(G.pm (4*t+f) f).toNat*5+3,none⟩=some (.int .i64 (G.pm J 2))∧w'.cell? ⟨b,off+(G.tet (4*t+f)).toNat*20+(G.pm (4*t+f) f).toNat*5+4,none⟩=some (.int .i64 (G.pm J 3)))
        (first
         | exact⟨x0,x1,x2,x3,x4,xf,xc,g0,g1,g2,g3,g4⟩
         | exact⟨(hb2.cell (p:=⟨wr.heap.size,_,none⟩) (by exact lx0)).trans x0,(hb2.cell (p:=⟨wr.heap.size,_,none⟩) (by exact lx1)).trans x1,(hb2.cell (p:=⟨wr.heap.size,_,none⟩) (by exact lx2)).trans x2,(hb2.cell (p:=⟨wr.heap.size,_,none⟩) (by exact lx3)).trans x3,(hb2.cell (p:=⟨wr.heap.size,_,none⟩) (by exact lx4)).trans x4,(hb2.cell (p:=⟨wr.heap.size,_,none⟩) (by exact lxf)).trans xf,(hb2.cell (p:=⟨N,_,none⟩) (by exact lxc)).trans xc,(hb2.cell (p:=⟨b,_,none⟩) (by exact lg0)).trans g0,(hb2.cell (p:=⟨b,_,none⟩) (by exact lg1)).trans g1,(hb2.cell (p:=⟨b,_,none⟩) (by exact lg2)).trans g2,(hb2.cell (p:=⟨b,_,none⟩) (by exact lg3)).trans g3,(hb2.cell (p:=⟨b,_,none⟩) (by exact lg4)).trans g4⟩)
        (first|(go_at_call 64;(with_reducible refine (HV.out.2 _).mono ?_);rintro e w2 ⟨rfl,hb2⟩))
       go_wp2
       go_roundw
       case rel=>exact⟨f+1,by omega,rfl,(hb2.cell (p:=⟨N,0,none⟩) (by exact lxc)).trans xc,HB.out.trans (hb2.mono (by simp at lxc ⊢;omega))⟩
       case measure=>simp[intOf];omega
      ·go_wp2_with (go_at_call 63;(with_reducible refine (HV.out.1 _).mono ?_);rintro e w1 ⟨rfl,hb1⟩;obtain⟨x0,x1,x2,x3,x4,xf,xc,xg,xb⟩:=HX.out _ _ rfl hb1;have H1:=Hd3 xg xb hb1;clear hb1 xg xb)
       obtain⟨⟨g0,g1,g2,g3,g4⟩,xb,hb1⟩:=H1.out
       replace x0:w1.drew.cell? ⟨wr.heap.size,0,none⟩=some (.int .i64 (G.tet (4*t+f))):=x0
       replace x1:w1.drew.cell? ⟨wr.heap.size,1,none⟩=some (.int .i64 (G.pm (4*t+f) 0)):=x1
       replace x2:w1.drew.cell? ⟨wr.heap.size,2,none⟩=some (.int .i64 (G.pm (4*t+f) 1)):=x2
       replace x3:w1.drew.cell? ⟨wr.heap.size,3,none⟩=some (.int .i64 (G.pm (4*t+f) 2)):=x3
       replace x4:w1.drew.cell? ⟨wr.heap.size,4,none⟩=some (.int .i64 (G.pm (4*t+f) 3)):=x4
       replace xf:w1.drew.cell? ⟨wr.heap.size,1+f,none⟩=some (.int .i64 (G.pm (4*t+f) f)):=xf
       replace xc:w1.drew.cell? ⟨N,0,none⟩=some (.slice (some ⟨b,off,none⟩) G.n cap):=xc
       replace g0:w1.drew.cell? ⟨b,off+(G.tet (4*t+f)).toNat*20+(G.pm (4*t+f) f).toNat*5,none⟩=some (.int .i64 (G.tet J)):=g0
       replace g1:w1.drew.cell? ⟨b,off+(G.tet (4*t+f)).toNat*20+(G.pm (4*t+f) f).toNat*5+1,none⟩=some (.int .i64 (G.pm J 0)):=g1
       replace g2:w1.drew.cell? ⟨b,off+(G.tet (4*t+f)).toNat*20+(G.pm (4*t+f) f).toNat*5+2,none⟩=some (.int .i64 (G.pm J 1)):=g2
       replace g3:w1.drew.cell? ⟨b,off+(G.tet (4*t+f)).toNat*20+(G.pm (4*t+f) f).toNat*5+3,none⟩=some (.int .i64 (G.pm J 2)):=g3
       replace g4:w1.drew.cell? ⟨b,off+(G.tet (4*t+f)).toNat*20+(G.pm (4*t+f) f).toNat*5+4,none⟩=some (.int .i64 (G.pm J 3)):=g4
       have lx0:=za0 x0
       have lx1:=za0 x1
       have lx2:=za0 x2
       have lx3:=za0 x3
       have lx4:=za0 x4
       have lxf:=za0 xf
       have lxc:=za0 xc
       have lg0:=za0 g0
       have lg1:=za0 g1
       have lg2:=za0 g2
       have lg3:=za0 g3
       have lg4:=za0 g4
       simp only at lx0 lx1 lx2 lx3 lx4 lxf lxc lg0 lg1 lg2 lg3 lg4
       have HB:=Lib.hid (za5 xb)
       clear xb hb1
       have he2:=fun w=>zc5 (G.tet J) (t:Int) (G.pm J 0) (G.pm J 1) (G.pm J 2) (G.pm J 3) (invF (G.pm (4*t+f)) 0) (invF (G.pm (4*t+f)) 1) (invF (G.pm (4*t+f)) 2) (invF (G.pm (4*t+f)) 3) w
       simp only[HM.out] at he2
       go_region_held3 (fun w'=>w'.cell? ⟨wr.heap.size,0,none⟩=some (.int .i64 (G.tet (4*t+f)))∧w'.cell? ⟨wr.heap.size,1,none⟩=some (.int .i64 (G.pm (4*t+f) 0))∧w'.cell? ⟨wr.heap.size,2,none⟩=some (.int .i64 (G.pm (4*t+f) 1))∧w'.cell? ⟨wr.heap.size,3,none⟩=some (.int .i64 (G.pm (4*t+f) 2))∧w'.cell? ⟨wr.heap.size,4,none⟩=some (.int .i64 (G.pm (4*t+f) 3))∧w'.cell? ⟨wr.heap.size,1+f,none⟩=some (.int .i64 (G.pm (4*t+f) f))∧w'.cell? ⟨N,0,none⟩=some (.slice (some ⟨b,off,none⟩) G.n cap)∧w'.cell? ⟨b,off+(G.tet (4*t+f)).toNat*20+(G.pm (4*t+f) f).toNat*5,none⟩=some (.int .i64 (G.tet J))∧w'.cell? ⟨b,off+(G.tet (4*t+f)).toNat*20+(G.pm (4*t+f) f).toNat*5+1,none⟩=some (.int .i64 (G.pm J 0))∧w'.cell? ⟨b,off+(G.tet (4*t+f)).toNat*20+(G.pm (4*t+f) f).toNat*5+2,none⟩=some (.int .i64 (G.pm J 1))∧w'.cell? ⟨b,off+(G.tet (4*t+f)).toNat*20+(G.pm (4*t+f) f).toNat*5+3,none⟩=some (.int .i64 (G.pm J 2))∧w'.cell? ⟨b,off+(G.tet (4*t+f)).toNat*20+(G.pm (4*t+f) f).toNat*5+4,none⟩=some (.int .i64 (G.pm J 3)))
        (first
         | exact⟨x0,x1,x2,x3,x4,xf,xc,g0,g1,g2,g3,g4⟩
         | exact⟨(hb2.cell (p:=⟨wr.heap.size,_,none⟩) (by exact lx0)).trans x0,(hb2.cell (p:=⟨wr.heap.size,_,none⟩) (by exact lx1)).trans x1,(hb2.cell (p:=⟨wr.heap.size,_,none⟩) (by exact lx2)).trans x2,(hb2.cell (p:=⟨wr.heap.size,_,none⟩) (by exact lx3)).trans x3,(hb2.cell (p:=⟨wr.heap.size,_,none⟩) (by exact lx4)).trans x4,(hb2.cell (p:=⟨wr.heap.size,_,none⟩) (by exact lxf)).trans xf,(hb2.cell (p:=⟨N,_,none⟩) (by exact lxc)).trans xc,(hb2.cell (p:=⟨b,_,none⟩) (by exact lg0)).trans g0,(hb2.cell (p:=⟨b,_,none⟩) (by exact lg1)).trans g1,(hb2.cell (p:=⟨b,_,none⟩) (by exact lg2)).trans g2,(hb2.cell (p:=⟨b,_,none⟩) (by exact lg3)).trans g3,(hb2.cell (p:=⟨b,_,none⟩) (by exact lg4)).trans g4⟩)
        (first|(go_at_call 64;(with_reducible refine (HV.out.2 _).mono ?_);rintro e w2 ⟨rfl,hb2⟩))
       go_wp2
       go_roundw
       case rel=>exact⟨f+1,by omega,rfl,(hb2.cell (p:=⟨N,0,none⟩) (by exact lxc)).trans xc,HB.out.trans (hb2.mono (by simp at lxc ⊢;omega))⟩
       case measure=>simp[intOf];omega
    ·obtain rfl:f=4:=by omega
     clear hc hb
     go_wp2
     go_roundw
     case rel=>exact⟨t+1,by omega,rfl,HK.out⟩
     case measure=>simp[intOf];omega
  ·obtain rfl:t=G.n:=by omega
   clear hc hb
   go_wp2
   go_ret
   exact⟨rfl,HN.out▸HK.out.2⟩
end
end Go.Proofs.Ytlckpgahijlmoaa
