/- R11.Cross: the sheet behind a face. -/
import Derived.Test.YtlckpgahijlmoaaQ29
import Derived.Test.YtlckpgahijlmoaaQ30
set_option maxRecDepth 100000
set_option maxHeartbeats 8000000
namespace Go.Proofs.Ytlckpgahijlmoaa
section
open Go.RowKit Go.Shelf
def SKV (B:Nat)(W:World)(sv:Value)(G:Gl):Prop:=
 ∃va vc ea ec ta b tc da dn dc ra rn rc la ln lc,sv=.agg #[.slice va G.n vc,.slice ea G.n ec,.slice ta G.n tc,.slice da dn dc,.slice ra rn rc,.slice la ln lc]∧(0<G.n→ta=some ⟨b,0,none⟩∧b<B)∧∀k,k<4*G.n→W.cell? ⟨b,k,none⟩=some (.int .i64 (fN G k:Nat))
theorem SKV.below {B:Nat}{W W':World}{sv:Value}{G:Gl}(h:SKV B W sv G)(hb:Below B W W'):SKV B W' sv G:=by
 obtain⟨va,vc,ea,ec,ta,b,tc,da,dn,dc,ra,rn,rc,la,ln,lc,e,h1,h2⟩:=h
 exact⟨va,vc,ea,ec,ta,b,tc,da,dn,dc,ra,rn,rc,la,ln,lc,e,h1,fun k hk=>(hb.cell (p:=⟨b,k,none⟩) (h1 (by omega)).2).trans (h2 k hk)⟩
theorem SKV.mono {B B':Nat}{W:World}{sv:Value}{G:Gl}(h:SKV B W sv G)(hB:B≤B'):SKV B' W sv G:=by
 obtain⟨va,vc,ea,ec,ta,b,tc,da,dn,dc,ra,rn,rc,la,ln,lc,e,h1,h2⟩:=h
 exact⟨va,vc,ea,ec,ta,b,tc,da,dn,dc,ra,rn,rc,la,ln,lc,e,fun h0=>⟨(h1 h0).1,Nat.lt_of_lt_of_le (h1 h0).2 hB⟩,h2⟩
theorem SkR.skv {W:World}{B:Nat}{sv:Value}{G:Gl}(h:SkR W B sv G):SKV W.heap.size W sv G:=by
 obtain⟨vv,ev,tv,lv,dB,rB,xs,rfl,h1,h2,h3,h4,-,-,-,-⟩:=h.ex
 obtain⟨va,vc,rfl⟩:=za8 h1
 obtain⟨ea,ec,rfl⟩:=za8 h2
 obtain⟨la,lc,rfl⟩:=za8 h4
 obtain⟨ta,tc,rfl⟩:=za8 h3
 rcases Nat.eq_zero_or_pos G.n with h0 | h0
 ·exact⟨va,vc,ea,ec,ta,0,tc,_,_,_,_,_,_,la,_,lc,rfl,fun h=>by omega,fun k hk=>by omega⟩
 ·obtain⟨b,tc',e,-,hlt⟩:=h3.form h0
  obtain⟨rfl,rfl⟩:ta=some ⟨b,0,none⟩∧tc=tc':=by simpa using e
  refine⟨va,vc,ea,ec,_,b,tc,_,_,_,_,_,_,la,_,lc,rfl,fun _=>⟨rfl,hlt⟩,fun k hk=>?_⟩
  have:=h3.cells (g:=b) rfl k _ (ints_get (fN G) (4*G.n) k hk)
  rwa [Addr.add_mid,Nat.zero_add] at this
theorem rcross_walk {G:Gl}(hok:za9 G=true){sh:Nat}{f g:Nat→Nat→Int}(hS:Sh G sh f g)(hsh:sh≤24)(t fc i:Nat)(ht:t<G.n)(hf:fc<4)(hi:i<sh)(v sv pv:Value)(w:World)(hG:GlAt w.heap.size w v G)(hsk:SKV w.heap.size w sv G)(hp:LLs w.heap.size w pv (nF G) (fun _=>sh) f)(S:Int) :
  Calls Try.prog 55 #[.agg #[v],sv,.agg #[.int .i64 S,pv],.int .i64 (t:Int),.int .i64 (fc:Int),.int .i64 (i:Int)] w fun e w'=>e=.returned (.int .i64 (crF G f g t fc i))∧Below w.heap.size w w':=by
 have hn:=zg5 hok
 have hk:=fN_lt hok (show 4*t+fc<4*G.n by omega)
 have hcr:=crF_at hok f g ht hf i
 have hF:=fun W (hb:Below w.heap.size w W)=>rfirst_walk hok t fc ht hf v W ((hG.below hb).mono hb.size)
 have HF:=Lib.hid hF
 have HS:=Hd2 hS hcr
 obtain⟨ga,gc,rfl⟩:∃a c,v=.slice a G.n c:=by obtain⟨a,_,_,cap,e,_⟩:=hG;exact⟨a,cap,e⟩
 obtain⟨va,vc,ea,ec,ta,b,tc,da,dn,dc,ra,rn,rc,la,ln,lc,rfl,hta,htri⟩:=hsk
 obtain⟨rfl,hbB⟩:=hta (by omega)
 have c1:=htri (4*t+fc) (by omega)
 rw[show 4*t+fc=t*4+fc by omega] at c1
 obtain⟨pa,pb,po,pc,rfl,hp1,hp2⟩:=hp
 obtain⟨rfl,hpB⟩:=hp1 (by omega)
 obtain⟨rv,c2,hr⟩:=hp2 _ hk
 obtain⟨rra,rrb,rro,rrc,rfl,hr1,hr2⟩:=hr
 obtain⟨rfl,hrB⟩:=hr1 (by show 0<sh;omega)
 obtain⟨k,hke⟩:∃k,k=fN G (4*t+fc):=⟨_,rfl⟩
 rw[show t*4+fc=4*t+fc by omega] at c1
 rw[←hke] at c1 c2 hk hr2
 have c1':w.cell? ⟨b,t*4+fc,none⟩=some (.int .i64 (k:Int)):=by rw[show t*4+fc=4*t+fc by omega];exact c1
 have HK:=Hd2 hke hr2
 obtain⟨nf,hnf⟩:∃nf,nf=nF G:=⟨_,rfl⟩
 rw[←hnf] at hk ⊢
 have t0:0≤(t:Int):=by omega
 have tn:(t:Int)<(G.n:Int):=by omega
 have f0:0≤(fc:Int):=by omega
 have f4:(fc:Int)<4:=by omega
 have k0:0≤(k:Int):=by omega
 have kn:(k:Int)<(nf:Int):=by omega
 have i0:0≤(i:Int):=by omega
 have is:(i:Int)<(sh:Int):=by omega
 obtain⟨N,hN⟩:∃N,N=w.heap.size:=⟨_,rfl⟩
 clear hta htri hp1 hp2 hr1 hF hG hke hnf hcr hS c1
 go_enter Try.func55,Try.ntmps55
 go_wp2
 refine zb3 fun W1 hW=>?_
 rw[←hN]
 have h1:Below N w W1∧W1.cell? ⟨N,0,none⟩=some (.slice ga G.n gc)∧W1.cell? ⟨N+1,2,none⟩=some (.slice (some ⟨b,0,none⟩) G.n tc)∧W1.cell? ⟨N+1+1,1,none⟩=some (.slice (some ⟨pb,po,none⟩) nf pc):=by
  rw[hW,hN];exact⟨by (repeat' (first | assumption | exact Below.refl _ _ | refine za7 ?_ (by assumption) | refine zb2 ?_ _ | refine za5 ?_ | refine zb1 ?_ (by simp<;>omega) _)),by simp[go_sem],by simp[go_sem],by simp[go_sem]⟩
 obtain⟨hb,x0,x1,x2⟩:=h1
 have y1:=(hb.cell (p:=⟨b,t*4+fc,none⟩) (by rw[hN];exact hbB)).trans c1'
 have y2:=(hb.cell (p:=⟨pb,po+k,none⟩) (by rw[hN];exact hpB)).trans c2
 have HB:=Hd2 hb hN
 clear hW hb hN c1' c2
 have d1:W1.drew.cell? ⟨N+1,2,none⟩=some (.slice (some ⟨b,0,none⟩) G.n tc):=x1
 have d2:W1.drew.cell? ⟨N+1+1,1,none⟩=some (.slice (some ⟨pb,po,none⟩) nf pc):=x2
 have d3:W1.drew.cell? ⟨b,t*4+fc,none⟩=some (.int .i64 (k:Int)):=y1
 have d4:W1.drew.cell? ⟨pb,po+k,none⟩=some (.slice (some ⟨rrb,rro,none⟩) sh rrc):=y2
 have d0:W1.drew.cell? ⟨N,0,none⟩=some (.slice ga G.n gc):=x0
 refine wp_region_still_lit (by kernel_rfl) (by kernel_rfl) ?_
 repeat (refine wpStill_step (fun K hK=>?_);go_simp;refine hK _ ?_;clear hK K)
 refine wpStill_nil ?_
 clear d1 d2 d3 d4 x0 x1 x2 y1 y2
 have hbd:Below w.heap.size w W1.drew:=by rw[←HB.out.2];exact za5 HB.out.1
 have h54:=HF.out _ hbd
 have H54:=Lib.hid h54
 clear h54 hbd
 go_wp2_with fail
 refine H54.out.mono ?_
 rintro e W2 ⟨rfl,hb2⟩
 have hbw:Below w.heap.size w W2:=by
  have h:=za5 HB.out.1
  rw[HB.out.2] at h
  exact h.trans (hb2.mono h.size)
 have hrow:∀m,m<sh→W2.cell? ⟨rrb,rro+m,none⟩=some (.int .i64 (f k m)):=fun m hm=>(hbw.cell (p:=⟨rrb,rro+m,none⟩) hrB).trans (HK.out.2 m hm)
 have HW:=Hd2 hbw hrow
 clear hbw hb2 hrow d0
 by_cases hif:isF G (4*t+fc)
 ·have q:decide (isF G (4*t+fc))=true:=by simpa using hif
  have hres:=HS.out.2
  rw[if_pos hif,←HK.out.1] at hres
  have hx:=HW.out.2 i hi
  obtain⟨x,hxe⟩:∃x,x=f k i:=⟨_,rfl⟩
  rw[←hxe] at hx hres
  have HR:=Lib.hid hres
  rw[q]
  clear hxe hres q hif
  go_wp2
  go_ret
  exact⟨by rw[HR.out];rfl,HW.out.1⟩
 ·have q:decide (isF G (4*t+fc))=false:=by simpa using hif
  have hres:=HS.out.2
  rw[if_neg hif,←HK.out.1] at hres
  have hkn:k<nF G:=by rw[HK.out.1];exact fN_lt hok (by omega)
  obtain⟨j0,hj0,hj1⟩:=HS.out.1.gr k i hkn hi
  have hj2:=HS.out.1.fg k i j0 hkn hi hj0
  rw[hj0] at hres
  have HR:=Hd3 hres hj1 hj2
  have HU:=Lib.hid (fun m hm (e:f k m=i)=>show m=j0 from by
   have:=HS.out.1.gf k m i hkn hm e
   omega)
  rw[q]
  clear hres q hif hj0 hj1 hj2 hkn
  go_wp2
  go_loop [37] (fun a=>∃j:Nat,j≤sh∧a=.int .i64 j∧∀m,m<j→f k m≠i) (fun a=>sh-(intOf a).toNat)
  case atStart=>exact⟨0,by omega,rfl,fun m hm=>by omega⟩
  case round=>
   obtain⟨j,hj,rfl,hne⟩:=hrel
   have HN:=Lib.hid hne
   clear hne
   rcases Nat.lt_or_ge j sh with hjs | hjs
   ·have hx:=HW.out.2 j hjs
    obtain⟨x,hxe⟩:∃x,x=f k j:=⟨_,rfl⟩
    rw[←hxe] at hx
    have HX:=Lib.hid hxe
    have jj0:0≤(j:Int):=by omega
    have jjs:(j:Int)<(sh:Int):=by omega
    clear hxe
    by_cases hxi:x=i
    ·have q3:(x==(i:Int))=true:=by simpa using hxi
     have hjj:=HU.out j hjs (by rw[←HX.out];exact hxi)
     have HJ:=Lib.hid hjj
     clear hjj
     go_wp2
     go_ret
     exact⟨by rw[HR.out.1,←HJ.out];rfl,HW.out.1⟩
    ·have q3:(x==(i:Int))=false:=by simpa using hxi
     go_wp2
     go_round
     case rel=>exact⟨j+1,by omega,rfl,fun m hm=>by
      rcases Nat.lt_or_ge m j with h | h
      ·exact HN.out m h
      ·rw[show m=j by omega,←HX.out];exact hxi⟩
     case measure=>simp[intOf];omega
   ·exact absurd HR.out.2.2 (HN.out j0 (by have:=HR.out.2.1;omega))
end
end Go.Proofs.Ytlckpgahijlmoaa
