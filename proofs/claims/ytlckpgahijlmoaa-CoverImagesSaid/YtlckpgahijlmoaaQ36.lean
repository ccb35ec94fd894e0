/- The search from the tetrahedron 0: its states; the generators and their letters. Plain laws. -/
import Derived.Test.YtlckpgahijlmoaaQ33
import Derived.Test.YtlckpgahijlmoaaQ11
import Derived.Test.YtlckpgahijlmoaaQ35
import Derived.Test.YtlckpgahijlmoaaQ29
set_option maxRecDepth 100000
set_option maxHeartbeats 8000000
namespace Go.Proofs.Ytlckpgahijlmoaa
section
open Go.RowKit Go.Shelf
noncomputable def boolOf (P:Prop):Bool:=@decide P (Classical.propDecidable P)
theorem boolOf_true {P:Prop}(h:P):boolOf P=true:=@decide_eq_true P (Classical.propDecidable P) h
theorem zd4 {P:Prop}(h:¬P):boolOf P=false:=@decide_eq_false P (Classical.propDecidable P) h
def LLc (B:Nat)(W:World)(v:Value)(n:Nat)(len:Nat→Nat)(f:Nat→Nat→Int):Prop:=
 ∃a b off cap,v=.slice a n cap∧(0<n→a=some ⟨b,off,none⟩∧b<B)∧∀k,k<n→∃ra rb ro rc,W.cell? ⟨b,off+k,none⟩=some (.slice ra (len k) rc)∧len k≤rc∧(0<len k→ra=some ⟨rb,ro,none⟩∧rb<B)∧∀i,i<len k→W.cell? ⟨rb,ro+i,none⟩=some (.int .i64 (f k i))
theorem LLc.LLs {B:Nat}{W:World}{v:Value}{n:Nat}{len:Nat→Nat}{f:Nat→Nat→Int}(h:LLc B W v n len f):LLs B W v n len f:=by
 obtain⟨a,b,off,cap,rfl,h1,h2⟩:=h
 refine⟨a,b,off,cap,rfl,h1,fun k hk=>?_⟩
 obtain⟨ra,rb,ro,rc,q1,-,q2,q3⟩:=h2 k hk
 exact⟨_,q1,ra,rb,ro,rc,rfl,q2,q3⟩
theorem LLc.below {B:Nat}{W W':World}{v:Value}{n:Nat}{len:Nat→Nat}{f:Nat→Nat→Int}(h:LLc B W v n len f)(hb:Below B W W'):LLc B W' v n len f:=by
 obtain⟨a,b,off,cap,rfl,h1,h2⟩:=h
 refine⟨a,b,off,cap,rfl,h1,fun k hk=>?_⟩
 obtain⟨ra,rb,ro,rc,q1,q0,q2,q3⟩:=h2 k hk
 exact⟨ra,rb,ro,rc,(hb.cell (p:=⟨b,off+k,none⟩) (h1 (by omega)).2).trans q1,q0,q2,fun i hi=>(hb.cell (p:=⟨rb,ro+i,none⟩) (q2 (by omega)).2).trans (q3 i hi)⟩
theorem LLc.mono {B B':Nat}{W:World}{v:Value}{n:Nat}{len:Nat→Nat}{f:Nat→Nat→Int}(h:LLc B W v n len f)(hB:B≤B'):LLc B' W v n len f:=by
 obtain⟨a,b,off,cap,rfl,h1,h2⟩:=h
 refine⟨a,b,off,cap,rfl,fun hn=>⟨(h1 hn).1,by have:=(h1 hn).2;omega⟩,fun k hk=>?_⟩
 obtain⟨ra,rb,ro,rc,q1,q0,q2,q3⟩:=h2 k hk
 exact⟨ra,rb,ro,rc,q1,q0,fun h=>⟨(q2 h).1,by have:=(q2 h).2;omega⟩,q3⟩
structure ShP (G:Gl)(S:Int)(np:Nat)(len:Nat→Nat)(fp:Nat→Nat→Int):Prop where
 lo:1≤S
 hi:S≤24
 tets:S*G.n≤1000
 num:np=nF G
 perms:∀k,k<np→permB (len k) (fp k) S=true
 free:∀j,j<4*G.n→G.tet j<0→∀i,i<S.toNat→fp (fN G j) i=i
theorem classes_mx {G:Gl}(hok:za9 G=true):mxF (fun j=>(fN G j:Nat)) (4*G.n)=(nF G:Nat):=
 mx_cnt (cls_inv hok).2.2.2 (fun _ _=>rfl) _ (Nat.le_refl _)
structure SHB (w W:World)(N:Nat)(G:Gl)(ga:Option Addr)(gc b:Nat)(ta:Option Addr)(tc:Nat)(S:Int)(pa:Option Addr)(np pc:Nat):Prop where
 bel:Below N w W
 c0:W.cell? ⟨N,0,none⟩=some (.slice ga G.n gc)
 c1:W.cell? ⟨N+1,2,none⟩=some (.slice ta G.n tc)
 c2:W.cell? ⟨N+1+1,0,none⟩=some (.int .i64 S)
 c3:W.cell? ⟨N+1+1,1,none⟩=some (.slice pa np pc)
 lt:N+3≤W.heap.size
theorem SHB.below {w W W':World}{N:Nat}{G:Gl}{ga:Option Addr}{gc b:Nat}{ta:Option Addr}{tc:Nat}{S:Int}{pa:Option Addr}{np pc:Nat}(h:SHB w W N G ga gc b ta tc S pa np pc)(hb:Below W.heap.size W W'):SHB w W' N G ga gc b ta tc S pa np pc:=by
 have hg:=za6 hb (Nat.le_refl _) none
 have:=h.lt
 exact⟨h.bel.trans (hb.mono (by omega)),hg.cell h.c0 (by simp),hg.cell h.c1 (by simp),hg.cell h.c2 (by simp),hg.cell h.c3 (by simp),by have:=hb.size;omega⟩
theorem P84_int (p:Nat→Nat)(j0 k:Nat)(hk:k<4)(w:World):(Instr.index 84 (.agg #[.int .i64 (p j0:Int),.int .i64 (p (j0+1):Int),.int .i64 (p (j0+2):Int),.int .i64 (p (j0+3):Int)]) (.int .i64 (k:Int))).run Try.prog w=.ok (.int .i64 (p (j0+k):Int)) w:=
 P84_index (fun i=>(p (j0+i):Int)) k hk w
theorem rshaped_walk {G:Gl}(hok:za9 G=true)(S:Int)(np:Nat)(len:Nat→Nat)(fp:Nat→Nat→Int)(v sv pv:Value)(w:World)(hG:GlAt w.heap.size w v G)(hsk:SKV w.heap.size w sv G)(hp:LLc w.heap.size w pv np len fp)(hlen:∀k,k<np→len k<4611686018427387904)(hnp:np<4611686018427387904) :
  Calls Try.prog 92 #[.agg #[v],sv,.agg #[.int .i64 S,pv]] w fun e w'=>e=.returned (.bool (boolOf (ShP G S np len fp)))∧Below w.heap.size w w':=by
 have hn:=zg5 hok
 have HOK:=Lib.hid hok
 have HG:=Hd3 hG hp hlen
 obtain⟨ga,gc,rfl⟩:∃a c,v=.slice a G.n c:=by obtain⟨a,_,_,cap,e,_⟩:=hG;exact⟨a,cap,e⟩
 obtain⟨pa,pc,rfl⟩:∃a c,pv=.slice a np c:=by obtain⟨a,_,_,cap,e,_⟩:=hp;exact⟨a,cap,e⟩
 obtain⟨va,vc,ea,ec,ta,b,tc,da,dn,dc,ra,rn,rc,la,ln,lc,rfl,hta,htri⟩:=hsk
 have HT:=Hd2 hta htri
 clear hG hp hlen hta htri hok
 obtain⟨N,hN⟩:∃N,N=w.heap.size:=⟨_,rfl⟩
 have HN:=Lib.hid hN
 have hb0:∀o1 o2 o3,Below N w (((w.alloc o1).alloc o2).alloc o3):=fun o1 o2 o3=>by rw[hN];(repeat' (first | assumption | exact Below.refl _ _ | refine za7 ?_ (by assumption) | refine zb2 ?_ _ | refine za5 ?_ | refine zb1 ?_ (by simp<;>omega) _))
 have HB0:=Lib.hid hb0
 clear hb0
 go_enter Try.func92,Try.ntmps92
 rcases Int.lt_or_le S 1 with s1 | s1
 ·have q1:decide (S<1)=true:=by simpa using s1
  have HF:=Lib.hid (zd4 (P:=ShP G S np len fp) (fun h=>by have:=h.lo;omega))
  clear hN
  go_wp2
  go_ret
  exact⟨by rw[HF.out];rfl,by rw[←HN.out];exact HB0.out _ _ _⟩
 have q1:decide (S<1)=false:=by simp;omega
 rcases Int.lt_or_le 24 S with s2 | s2
 ·have q2:decide (24<S)=true:=by simpa using s2
  have HF:=Lib.hid (zd4 (P:=ShP G S np len fp) (fun h=>by have:=h.hi;omega))
  clear hN
  go_wp2
  go_ret
  exact⟨by rw[HF.out];rfl,by rw[←HN.out];exact HB0.out _ _ _⟩
 have q2:decide (24<S)=false:=by simp;omega
 obtain⟨s,rfl⟩:∃s:Nat,S=s:=⟨S.toNat,by omega⟩
 obtain⟨p,hp⟩:∃p,p=s*G.n:=⟨_,rfl⟩
 have hpb:p≤24000:=by
  have:s*G.n≤24*1000:=Nat.mul_le_mul (by omega) hn
  omega
 have hpi:(s:Int)*(G.n:Int)=(p:Int):=by rw[hp];push_cast;rfl
 have qp:IntKind.i64.wrap ((s:Int)*(G.n:Int))=(p:Int):=by rw[hpi];exact IntWalk.i64_in _ (by omega)
 have HP:=Lib.hid hpi
 clear hp hpi
 rcases Nat.lt_or_ge 1000 p with s3 | s3
 ·have q3:decide ((1000:Int)<(p:Int))=true:=by simp;omega
  have HF:=Lib.hid (zd4 (P:=ShP G s np len fp) (fun h=>by have h1:=h.tets;rw[HP.out] at h1;omega))
  clear hN
  go_wp2
  go_ret
  exact⟨by rw[HF.out];rfl,by rw[←HN.out];exact HB0.out _ _ _⟩
 have q3:decide ((1000:Int)<(p:Int))=false:=by simp;omega
 go_wp2
 rw[←hN]
 refine zb3 fun W0 hW=>?_
 have h0:SHB w W0 N G ga gc 0 ta tc s pa np pc:=by
  rw[hW,hN];exact⟨by (repeat' (first | assumption | exact Below.refl _ _ | refine za7 ?_ (by assumption) | refine zb2 ?_ _ | refine za5 ?_ | refine zb1 ?_ (by simp<;>omega) _)),by simp[go_sem],by simp[go_sem],by simp[go_sem],by simp[go_sem],by simp⟩
 have H0:=Lib.hid h0
 clear hW hN h0 HB0
 go_loopw [7,40] (fun m i wr=>∃t:Nat,t≤G.n∧i=.int .i64 t∧m=.int .i64 (mxF (fun j=>(fN G j:Nat)) (4*t))∧SHB w wr N G ga gc 0 ta tc s pa np pc) (fun _ i _=>G.n-(intOf i).toNat)
 case atStart=>exact⟨0,by omega,rfl,rfl,H0.out⟩
 case round=>
  clear H0
  obtain⟨t,ht,rfl,rfl,hB⟩:=hrel
  have HK:=Lib.hid hB
  clear hB
  rcases Nat.lt_or_ge t G.n with htn | htn
  ·obtain⟨rfl,hbb⟩:=HT.out.1 (by omega)
   have cw:∀i,i<4→wr.cell? ⟨b,t*4+i,none⟩=some (.int .i64 (fN G (4*t+i):Nat)):=fun i hi=>by
    have h1:=HT.out.2 (4*t+i) (by omega)
    rw[show 4*t+i=t*4+i by omega] at h1
    have h2:=(HK.out.bel.cell (p:=⟨b,t*4+i,none⟩) (by show b<N;rw[HN.out];exact hbb)).trans h1
    rw[show 4*t+i=t*4+i by omega];exact h2
   have e0:=cw 0 (by omega)
   have e1:=cw 1 (by omega)
   have e2:=cw 2 (by omega)
   have e3:=cw 3 (by omega)
   rw[Nat.add_zero,Nat.add_zero] at e0
   have t0:0≤(t:Int):=by omega
   have tn:(t:Int)<(G.n:Int):=by omega
   have HC:=Lib.hid cw
   clear cw
   go_wp2
   refine zb3 fun W1 hW=>?_
   have h1:SHB w W1 N G ga gc 0 (some ⟨b,0,none⟩) tc s pa np pc:=by rw[hW];exact HK.out.below ((Below.refl _ _).alloc (Nat.le_refl _) _)
   have H1:=Lib.hid h1
   clear h1 hW
   go_loopw [7,45] (fun m i wz=>∃f:Nat,f≤4∧i=.int .i64 f∧m=.int .i64 (mxF (fun j=>(fN G j:Nat)) (4*t+f))∧wz=W1) (fun _ i _=>4-(intOf i).toNat)
   case atStart=>exact⟨0,by omega,rfl,rfl,rfl⟩
   case round=>
    obtain⟨f,hf,rfl,rfl,rfl⟩:=hrel
    rcases Nat.lt_or_ge f 4 with hf4 | hf4
    ·have hix:=fun w=>P84_int (fN G) (4*t) f hf4 w
     have hlt:=fN_lt HOK.out (show 4*t+f<4*G.n by omega)
     have hnb:nF G≤4000:=by have:=zg7 (zb5 G).r4 (4*G.n);unfold nF;omega
     have hmx:mxF (fun j=>(fN G j:Nat)) (4*t+f+1)=max (mxF (fun j=>(fN G j:Nat)) (4*t+f)) ((fN G (4*t+f):Int)+1):=rfl
     obtain⟨x,hx⟩:∃x,x=fN G (4*t+f):=⟨_,rfl⟩
     rw[←hx] at hix hlt hmx
     have HX:=Lib.hid hmx
     have qx:IntKind.i64.wrap ((x:Int)+1)=(x:Int)+1:=IntWalk.i64_in _ (by omega)
     have f0:0≤(f:Int):=by omega
     have f4:(f:Int)<4:=by omega
     clear hmx hx
     go_wp2
     exact⟨⟨f+1,by omega,by simp,by rw[show 4*t+(f+1)=4*t+f+1 by omega,HX.out],trivial⟩,by simp[intOf];omega⟩
    ·obtain rfl:f=4:=by omega
     go_wp2
     exact⟨⟨t+1,by omega,by simp,by rw[show 4*(t+1)=4*t+4 by omega],H1.out⟩,by simp[intOf];omega⟩
  ·obtain rfl:t=G.n:=by omega
   rw[classes_mx HOK.out]
   have c3:=HK.out.c3
   obtain⟨nf,hnf⟩:∃nf,nf=nF G:=⟨_,rfl⟩
   rw[←hnf]
   have HNF:=Lib.hid hnf
   clear hnf
   by_cases hnn:np=nf
   ·subst hnn
    have q4:((np:Int) !=(np:Int))=false:=by simp
    go_wp2
    obtain⟨wk,hwk⟩:∃wk,wk=wr:=⟨_,rfl⟩
    subst hwk
    have hNs:N≤wk.heap.size:=by have:=HK.out.lt;omega
    have rowk:∀k,k<np→∃pb po ra rb ro rc,pa=some ⟨pb,po,none⟩∧wk.cell? ⟨pb,po+k,none⟩=some (.slice ra (len k) rc)∧len k≤rc∧pb<N∧(0<len k→ra=some ⟨rb,ro,none⟩∧rb<N)∧∀i,i<len k→wk.cell? ⟨rb,ro+i,none⟩=some (.int .i64 (fp k i)):=fun k hk=>by
     obtain⟨a,pb,po,cap,e,h1,h2⟩:=HG.out.2.1
     obtain⟨rfl,rfl⟩:pa=a∧pc=cap:=by simpa using e
     obtain⟨rfl,hpB⟩:=h1 (by omega)
     obtain⟨ra,rb,ro,rc,r1,r2,r3,r4⟩:=h2 k hk
     rw[←HN.out] at hpB r3
     exact⟨pb,po,ra,rb,ro,rc,rfl,(HK.out.bel.cell (p:=⟨pb,po+k,none⟩) hpB).trans r1,r2,hpB,r3,fun i hi=>(HK.out.bel.cell (p:=⟨rb,ro+i,none⟩) (r3 (by omega)).2).trans (r4 i hi)⟩
    have HRW:=Lib.hid rowk
    have c2:=HK.out.c2
    clear rowk
    go_loopw [62] (fun i wz=>∃k:Nat,k≤np∧i=.int .i64 k∧(∀m,m<k→permB (len m) (fp m) s=true)∧wz=wk) (fun i _=>np-(intOf i).toNat)
    case atStart=>exact⟨0,by omega,rfl,fun m hm=>by omega,rfl⟩
    case round=>
     obtain⟨k,hk,rfl,hall,rfl⟩:=hrel
     have HA:=Lib.hid hall
     clear hall
     rcases Nat.lt_or_ge k np with hkn | hkn
     ·obtain⟨pb,po,ra,rb,ro,rc,rfl,r1,r2,r3,r4,r5⟩:=HRW.out k hkn
      have hSI:SI N wr (.slice ra (len k) rc) (len k) (fp k):=⟨ra,rb,ro,rc,rfl,r4,r5⟩
      have hl:=HG.out.2.2 k hkn
      have k0:0≤(k:Int):=by omega
      have kn:(k:Int)<(np:Int):=by omega
      have h73:=rperm_walk (len k) (fp k) s hl (by omega) N wr ra rc r2 hSI
      obtain⟨β,hβ⟩:∃β,β=permB (len k) (fp k) s:=⟨_,rfl⟩
      rw[←hβ] at h73
      have H73:=Lib.hid h73
      obtain⟨l,hle⟩:∃l,l=len k:=⟨_,rfl⟩
      rw[←hle] at r1 H73
      clear h73 hSI r2 r4 r5 hl hle
      cases β with
      | false=>
       have HF:=Lib.hid (zd4 (P:=ShP G s np len fp) (fun h=>by have:=h.perms k hkn;rw[←hβ] at this;cases this))
       clear hβ
       go_wp2_with (go_at_call 73;(with_reducible refine H73.out.mono ?_);rintro e w5 ⟨rfl,rfl⟩)
       go_ret
       exact⟨by rw[HF.out];rfl,by rw[←HN.out];exact HK.out.bel⟩
      | true=>
       have HT2:=Lib.hid hβ.symm
       clear hβ
       go_wp2_with (go_at_call 73;(with_reducible refine H73.out.mono ?_);rintro e w5 ⟨rfl,rfl⟩)
       exact⟨⟨k+1,by omega,by simp,fun m hm=>by
        rcases Nat.lt_or_ge m k with h | h
        ·exact HA.out m h
        ·rw[show m=k by omega];exact HT2.out,trivial⟩,by simp[intOf];omega⟩
     ·obtain rfl:k=np:=by omega
      have hls:∀m,m<k→len m=s:=fun m hm=>by
       have:=(zf1 (HA.out m hm)).1;omega
      have HLS:=Lib.hid hls
      have c1:=HK.out.c1
      clear hls
      go_wp2
      obtain⟨V,hV⟩:∃V,V=wr:=⟨_,rfl⟩
      subst hV
      go_loopw [75] (fun i wz=>∃t:Nat,t≤G.n∧i=.int .i64 t∧(∀j,j<4*t→G.tet j<0→∀i,i<s→fp (fN G j) i=i)∧Below V.heap.size V wz) (fun i _=>G.n-(intOf i).toNat)
      case atStart=>exact⟨0,by omega,rfl,fun j hj=>by omega,Below.refl _ _⟩
      case round=>
       obtain⟨t,ht,rfl,hfr,hbz⟩:=hrel
       have HFR:=Hd2 hfr hbz
       have hB:=HK.out.below hbz
       rcases Nat.lt_or_ge t G.n with htn | htn
       ·obtain⟨rfl,hbb⟩:=HT.out.1 (by omega)
        have cw:∀i,i<4→wr.cell? ⟨b,t*4+i,none⟩=some (.int .i64 (fN G (4*t+i):Nat)):=fun i hi=>by
         have h1:=HT.out.2 (4*t+i) (by omega)
         rw[show 4*t+i=t*4+i by omega] at h1
         have h2:=(hB.bel.cell (p:=⟨b,t*4+i,none⟩) (by show b<N;rw[HN.out];exact hbb)).trans h1
         rw[show 4*t+i=t*4+i by omega];exact h2
        have e0:=cw 0 (by omega)
        have e1:=cw 1 (by omega)
        have e2:=cw 2 (by omega)
        have e3:=cw 3 (by omega)
        rw[Nat.add_zero,Nat.add_zero] at e0
        have t0:0≤(t:Int):=by omega
        have tn:(t:Int)<(G.n:Int):=by omega
        clear cw hfr hbz hB
        go_wp2
        refine zb3 fun W1 hW=>?_
        have h1:Below V.heap.size V W1:=by rw[hW];exact HFR.out.2.alloc HFR.out.2.size _
        have hB1:=HK.out.below h1
        have x0:=hB1.c0
        have x3:=hB1.c3
        have H1:=Hd2 h1 hB1
        clear h1 hB1 hW e0 e1 e2 e3
        go_loopw [81] (fun i wz=>∃f:Nat,f≤4∧i=.int .i64 f∧(∀j,j<4*t+f→G.tet j<0→∀i,i<s→fp (fN G j) i=i)∧wz=W1) (fun i _=>4-(intOf i).toNat)
        case atStart=>exact⟨0,by omega,rfl,HFR.out.1,rfl⟩
        case round=>
         obtain⟨f,hf,rfl,hfr,rfl⟩:=hrel
         have HF1:=Lib.hid hfr
         clear hfr
         rcases Nat.lt_or_ge f 4 with hf4 | hf4
         ·have hix:=fun w=>P84_int (fN G) (4*t) f hf4 w
          have hlt:=fN_lt HOK.out (show 4*t+f<4*G.n by omega)
          rw[←HNF.out] at hlt
          obtain⟨pb,po,ra,rb,ro,rc,rfl,r1,-,r3,r4,r5⟩:=HRW.out (fN G (4*t+f)) hlt
          rw[HLS.out _ hlt] at r1 r4 r5
          obtain⟨rfl,hrb⟩:=r4 (by omega)
          have hr1:=(H1.out.1.cell (p:=⟨pb,po+fN G (4*t+f),none⟩) (by show pb<V.heap.size;omega)).trans r1
          obtain⟨_,gb,go,_,hve,hga,hgc⟩:=HG.out.1
          obtain⟨rfl,rfl⟩:ga=_∧gc=_:=by simpa using hve
          obtain⟨rfl,hgB⟩:=hga (by omega)
          have ct:=(H1.out.2.bel.cell (p:=⟨gb,go+5*(4*t+f),none⟩) (by show gb<N;rw[HN.out];exact hgB)).trans (hgc (4*t+f) (by omega)).1
          rw[show go+5*(4*t+f)=go+t*20+f*5 by omega] at ct
          obtain⟨T,hT⟩:∃T,T=G.tet (4*t+f):=⟨_,rfl⟩
          obtain⟨c,hc⟩:∃c,c=fN G (4*t+f):=⟨_,rfl⟩
          have hrow:∀i,i<s→wr.cell? ⟨rb,ro+i,none⟩=some (.int .i64 (fp c i)):=fun i hi=>by
           rw[hc];exact (H1.out.1.cell (p:=⟨rb,ro+i,none⟩) (by show rb<V.heap.size;omega)).trans (r5 i hi)
          rw[←hT] at ct
          rw[←hc] at hix hlt hr1
          have HX:=Hd3 hT hc hrow
          have f0:0≤(f:Int):=by omega
          have f4:(f:Int)<4:=by omega
          have c0':0≤(c:Int):=by omega
          have cn:(c:Int)<(k:Int):=by omega
          clear hT hc hrow r1 r3 r4 r5 hrb hve hga hgc hgB
          go_wp2
          obtain⟨W2,hW2⟩:∃W2,W2=wr:=⟨_,rfl⟩
          subst hW2
          go_loopw [91] (fun a wz=>∃i:Nat,i≤s∧a=.int .i64 i∧(T<0→∀m,m<i→fp c m=m)∧wz=W2) (fun a _=>s-(intOf a).toNat)
          case atStart=>exact⟨0,by omega,rfl,fun _ m hm=>by omega,rfl⟩
          case round=>
           obtain⟨i,hi,rfl,hid,rfl⟩:=hrel
           have HI:=Lib.hid hid
           clear hid
           rcases Nat.lt_or_ge i s with his | his
           ·have hx:=HX.out.2.2 i his
            obtain⟨x,hxe⟩:∃x,x=fp c i:=⟨_,rfl⟩
            rw[←hxe] at hx
            have HXE:=Lib.hid hxe
            clear hxe
            have i0:0≤(i:Int):=by omega
            have is:(i:Int)<(s:Int):=by omega
            rcases Int.lt_or_le T 0 with hT0 | hT0
            ·have q5:decide (T<0)=true:=by simpa using hT0
             by_cases hxi:x=i
             ·have q6:((i:Int) !=x)=false:=by simp[hxi]
              go_wp2
              exact⟨⟨i+1,by omega,by simp,fun hn m hm=>by
               rcases Nat.lt_or_ge m i with h | h
               ·exact HI.out hn m h
               ·rw[show m=i by omega,←HXE.out,hxi],trivial⟩,by simp[intOf];omega⟩
             ·have q6:((i:Int) !=x)=true:=by simp;exact fun h=>hxi h.symm
              have HF:=Lib.hid (zd4 (P:=ShP G s k len fp) (fun h=>hxi (by
               have:=h.free (4*t+f) (by omega) (by rw[←HX.out.1];exact hT0) i (by simpa using his)
               rw[←HX.out.2.1,←HXE.out] at this;exact this)))
              go_wp2
              go_ret
              exact⟨by rw[HF.out];rfl,by rw[←HN.out];exact H1.out.2.bel⟩
            ·have q5:decide (T<0)=false:=by simp;omega
             go_wp2
             exact⟨⟨i+1,by omega,by simp,fun hn=>by omega,trivial⟩,by simp[intOf];omega⟩
           ·obtain rfl:i=s:=by omega
            go_wp2
            exact⟨⟨f+1,by omega,by simp,fun j hj hn m hm=>by
             rcases Nat.lt_or_ge j (4*t+f) with h | h
             ·exact HF1.out j h hn m hm
             ·have hj2:j=4*t+f:=by omega
              rw[hj2] at hn ⊢
              rw[←HX.out.2.1];exact HI.out (by rw[HX.out.1];exact hn) m hm,trivial⟩,by simp[intOf];omega⟩
         ·obtain rfl:f=4:=by omega
          go_wp2
          exact⟨⟨t+1,by omega,by simp,fun j hj=>HF1.out j (by omega),H1.out.1⟩,by simp[intOf];omega⟩
       ·obtain rfl:t=G.n:=by omega
        have HT3:=Lib.hid (boolOf_true (P:=ShP G s k len fp) ⟨by omega,by omega,by rw[HP.out];omega,HNF.out,HA.out,fun j hj hn i hi=>HFR.out.1 j hj hn i (by simpa using hi)⟩)
        have HB4:=Lib.hid hB.bel
        clear hfr hbz hB
        go_wp2
        go_ret
        exact⟨by rw[HT3.out];rfl,by rw[←HN.out];exact HB4.out⟩
   ·have q4:((np:Int) !=(nf:Int))=true:=by simp;omega
    have HF:=Lib.hid (zd4 (P:=ShP G s np len fp) (fun h=>hnn (by rw[HNF.out];exact h.num)))
    go_wp2
    go_ret
    exact⟨by rw[HF.out];rfl,by rw[←HN.out];exact HK.out.bel⟩
end
section
open Go.RowKit Go.Shelf
def fstI (f:Nat→Int)(l:Nat)(s:Int):Nat:=((List.range l).find? fun i=>f i==s).getD 0
theorem fstI_at {f:Nat→Int}{l k:Nat}{s:Int}(hk:k<l)(h:f k=s)(hn:∀i,i<k→f i≠s):fstI f l s=k:=by
 unfold fstI
 have:(List.range l).find? (fun i=>f i==s)=some k:=by
  rw[List.find?_eq_some_iff_getElem]
  refine⟨by simpa using h,k,by simpa using hk,by simp,fun j hj=>?_⟩
  simp only[List.getElem_range,Bool.not_eq_true',beq_eq_false_iff_ne]
  exact hn j hj
 rw[this];rfl
theorem fstI_none {f:Nat→Int}{l:Nat}{s:Int}(hn:∀i,i<l→f i≠s):fstI f l s=0:=by
 unfold fstI
 have:(List.range l).find? (fun i=>f i==s)=none:=by
  rw[List.find?_eq_none]
  intro i hi
  simpa using hn i (List.mem_range.1 hi)
 rw[this];rfl
section
variable (iv:Value)(ni:Nat)(li:Nat→Nat)(fi:Nat→Nat→Int)(w:World)(g s:Nat)(hiv:LLc w.heap.size w iv ni li fi)(hg:g<ni)(hs:s<li g)(hb:ni<4611686018427387904)(hl:li g<4611686018427387904)
include hiv hg hs hb hl
theorem moved_pos:Calls Try.prog 39 #[iv,.int .i64 ((g:Int)+1),.int .i64 (s:Int)] w fun e w'=>e=.returned (.int .i64 (fi g s))∧w'=w:=by
 obtain⟨ia,b,off,ic,rfl,h1,h2⟩:=hiv
 obtain⟨rfl,hbB⟩:=h1 (by omega)
 obtain⟨ra,rb,ro,rc,r1,r2,r3,r4⟩:=h2 g hg
 obtain⟨rfl,hrB⟩:=r3 (by omega)
 have c1:=r4 s hs
 obtain⟨x,hx⟩:∃x,x=fi g s:=⟨_,rfl⟩
 rw[←hx] at c1 ⊢
 obtain⟨l,hle⟩:∃l,l=li g:=⟨_,rfl⟩
 rw[←hle] at r1 hs hl
 have q0:decide (0<(g:Int)+1)=true:=by rw[decide_eq_true_eq];omega
 have q1:IntKind.i64.wrap ((g:Int)+1-1)=(g:Int):=by rw[IntWalk.i64_in _ (by omega)];omega
 have g0:0≤(g:Int):=by omega
 have gn:(g:Int)<(ni:Int):=by omega
 have s0:0≤(s:Int):=by omega
 have sl:(s:Int)<(l:Int):=by omega
 clear h1 h2 r3 r4 hx hle
 go_enter Try.func39,Try.ntmps39
 go_wp2
 go_ret
 exact⟨rfl,rfl⟩
theorem moved_neg:Calls Try.prog 39 #[iv,.int .i64 (-((g:Int)+1)),.int .i64 (s:Int)] w fun e w'=>e=.returned (.int .i64 (fstI (fi g) (li g) s:Int))∧w'=w:=by
 obtain⟨ia,b,off,ic,rfl,h1,h2⟩:=hiv
 obtain⟨rfl,hbB⟩:=h1 (by omega)
 obtain⟨ra,rb,ro,rc,r1,r2,r3,r4⟩:=h2 g hg
 obtain⟨rfl,hrB⟩:=r3 (by omega)
 have HR:=Lib.hid r4
 obtain⟨f,hf⟩:∃f,f=fi g:=⟨_,rfl⟩
 obtain⟨l,hle⟩:∃l,l=li g:=⟨_,rfl⟩
 rw[←hle,←hf] at HR
 rw[←hle] at r1 hs hl
 rw[←hle,←hf]
 have q0:decide (0 < -((g:Int)+1))=false:=by simp;omega
 have q1:IntKind.i64.wrap (-(-((g:Int)+1)))=(g:Int)+1:=by rw[IntWalk.i64_in _ (by omega)];omega
 have q2:IntKind.i64.wrap ((g:Int)+1-1)=(g:Int):=by rw[IntWalk.i64_in _ (by omega)];omega
 have g0:0≤(g:Int):=by omega
 have gn:(g:Int)<(ni:Int):=by omega
 clear h1 h2 r3 r4 hle hf
 go_enter Try.func39,Try.ntmps39
 go_wp2
 go_loopw [26] (fun i wz=>∃k:Nat,k≤l∧i=.int .i64 k∧(∀m,m<k→f m≠s)∧wz=w) (fun i _=>l-(intOf i).toNat)
 case atStart=>exact⟨0,by omega,rfl,fun m hm=>by omega,rfl⟩
 case round=>
  obtain⟨k,hk,rfl,hn,hwz⟩:=hrel
  obtain rfl:=hwz.symm
  have HN:=Lib.hid hn
  clear hn
  rcases Nat.lt_or_ge k l with hkl | hkl
  ·have ck:=HR.out k hkl
   obtain⟨y,hy⟩:∃y,y=f k:=⟨_,rfl⟩
   rw[←hy] at ck
   have HY:=Lib.hid hy
   have k0:0≤(k:Int):=by omega
   have kl:(k:Int)<(l:Int):=by omega
   clear hy
   by_cases e:y=s
   ·have b1:(y==(s:Int))=true:=by simpa using e
    have HE:=Lib.hid (fstI_at hkl (HY.out.symm.trans e) HN.out)
    clear e
    go_wp2
    go_ret
    exact⟨by rw[HE.out];rfl,rfl⟩
   ·have b1:(y==(s:Int))=false:=by simpa using e
    have HE:=Lib.hid e
    clear e
    go_wp2
    exact⟨⟨k+1,by omega,by simp,fun m hm=>by
     rcases Nat.lt_or_ge m k with h | h
     ·exact HN.out m h
     ·rw[show m=k by omega,←HY.out];exact HE.out,trivial⟩,by simp[intOf];omega⟩
  ·obtain rfl:k=l:=by omega
   have HE:=Lib.hid (fstI_none HN.out)
   go_wp2
   go_ret
   exact⟨by rw[HE.out];rfl,rfl⟩
end
end
section
theorem surj_of_inj:∀(n:Nat) (f:Nat→Nat),(∀i,i<n→f i<n)→(∀i j,i<n→j<n→f i=f j→i=j)→∀j,j<n→∃i,i<n∧f i=j
 | 0,_,_,_,j,hj=>by omega
 | n+1,f,hr,hi,j,hj=>by
  have hlt:∀i,i<n→f i≠f n:=fun i h e=>by have:=hi i n (by omega) (by omega) e;omega
  have ih:=surj_of_inj n (fun i=>if f i=n then f n else f i) (fun i h=>by
   have h1:=hr i (by omega)
   have h2:=hr n (by omega)
   have h3:=hlt i h
   by_cases e:f i=n
   ·simp only[e,if_true];omega
   ·simp only[e,if_false];omega) (fun a b ha hb e=>by
   have h1:=hlt a ha
   have h2:=hlt b hb
   by_cases ea:f a=n<;>by_cases eb:f b=n
   ·exact hi a b (by omega) (by omega) (by omega)
   ·simp only[ea,eb,if_true,if_false] at e;omega
   ·simp only[ea,eb,if_true,if_false] at e;omega
   ·simp only[ea,eb,if_false] at e;exact hi a b (by omega) (by omega) e)
  by_cases e1:j=f n
  ·exact⟨n,by omega,e1.symm⟩
  ·by_cases e2:j=n
   ·have hv:f n<n:=by have:=hr n (by omega);omega
    obtain⟨i,h1,h2⟩:=ih (f n) hv
    refine⟨i,by omega,?_⟩
    by_cases e:f i=n
    ·omega
    ·simp only[e,if_false] at h2;exact absurd h2 (hlt i h1)
   ·obtain⟨i,h1,h2⟩:=ih j (by omega)
    refine⟨i,by omega,?_⟩
    by_cases e:f i=n
    ·simp only[e,if_true] at h2;omega
    ·simp only[e,if_false] at h2;exact h2
theorem permB_inj {l:Nat}{f:Nat→Int}{n:Int}(h:permB l f n=true):∀i j,i<l→j<l→f i=f j→i=j:=by
 simp only[permB,Bool.and_eq_true,permP,List.all_eq_true,List.mem_range,Bool.not_eq_true',List.any_eq_false,beq_iff_eq] at h
 intro i j hi hj e
 rcases Nat.lt_trichotomy i j with q | q | q
 ·exact absurd e ((h.1 j hj).2 i q)
 ·exact q
 ·exact absurd e.symm ((h.1 i hi).2 j q)
theorem invP_at {f:Nat→Int}{l:Nat}(hi:∀i j,i<l→j<l→f i=f j→i=j){i x:Nat}(h:i<l)(hx:f i=x):invP f l x=i:=by
 have key:∀k,k≤l→i<k→invP f k x=i:=fun k=>by
  induction k with
  | zero=>intro _ h;omega
  | succ k ih=>
   intro hk h1
   show (if (x:Int)=f k then (k:Int) else invP f k x)=i
   by_cases e:(x:Int)=f k
   ·rw[if_pos e,hi i k h (by omega) (hx.trans e)]
   ·rw[if_neg e]
    exact ih (by omega) (by
     rcases Nat.lt_or_ge i k with q | q
     ·exact q
     ·have:i=k:=by omega
      subst this;exact absurd hx.symm e)
 exact key l (Nat.le_refl _) h
theorem sh_of {G:Gl}{sh:Nat}{len:Nat→Nat}{f:Nat→Nat→Int}(h:∀k,k<nF G→permB (len k) (f k) sh=true):Sh G sh f (fun k=>invP (f k) sh):=by
 have hl:∀k,k<nF G→len k=sh:=fun k hk=>by have:=(zf1 (h k hk)).1;omega
 have hr:∀k i,k<nF G→i<sh→∃j:Nat,f k i=j∧j<sh:=fun k i hk hi=>by
  have:=(zf1 (h k hk)).2 i (by rw[hl k hk];exact hi)
  exact⟨(f k i).toNat,by omega,by omega⟩
 have hin:∀k,k<nF G→∀i j,i<sh→j<sh→f k i=f k j→i=j:=fun k hk i j hi hj e=>permB_inj (h k hk) i j (by rw[hl k hk];exact hi) (by rw[hl k hk];exact hj) e
 have hs:∀k i,k<nF G→i<sh→∃j,j<sh∧f k j=i:=fun k i hk hi=>by
  obtain⟨j,h1,h2⟩:=surj_of_inj sh (fun i=>(f k i).toNat) (fun i hi=>by obtain⟨j,h1,h2⟩:=hr k i hk hi;show (f k i).toNat<sh;rw[h1];simpa using h2)
   (fun a b ha hb e=>hin k hk a b ha hb (by
    obtain⟨j,h1,-⟩:=hr k a hk ha
    obtain⟨m,h2,-⟩:=hr k b hk hb
    simp only[h1,h2,Int.toNat_natCast] at e
    rw[h1,h2,e])) i hi
  obtain⟨m,h3,-⟩:=hr k j hk h1
  refine⟨j,h1,?_⟩
  simp only[h3,Int.toNat_natCast] at h2
  rw[h3,h2]
 refine⟨hr,fun k i hk hi=>?_,fun k i j hk hi e=>invP_at (hin k hk) hi e,fun k i j hk hi e=>?_⟩
 ·obtain⟨j,h1,h2⟩:=hs k i hk hi
  exact⟨j,invP_at (hin k hk) h1 h2,h1⟩
 ·obtain⟨m,h1,h2⟩:=hs k i hk hi
  have:=invP_at (hin k hk) h1 h2
  rw[this] at e
  have:m=j:=by omega
  subst this;exact h2
theorem CovOK.sh {G:Gl}{sh:Int}{np:Nat}{len:Nat→Nat}{fp:Nat→Nat→Int}(h:CovOK G sh np len fp):Sh G sh.toNat fp (fun k=>invP (fp k) sh.toNat):=
 sh_of (len:=len) fun k hk=>by
  have:=h.perms k (by rw[h.num];exact hk)
  have h1:=h.lo
  rw[show ((sh.toNat:Nat):Int)=sh by omega];exact this
def idF (_ i:Nat):Int:=i
theorem permB_id (n:Nat):permB n (fun i=>(i:Int)) n=true:=by
 simp only[permB,Bool.and_eq_true,permP,List.all_eq_true,List.mem_range,Bool.not_eq_true',List.any_eq_false,beq_iff_eq,decide_eq_true_eq]
 exact⟨fun i hi=>⟨⟨by omega,by omega⟩,fun j hj=>by omega⟩,trivial⟩
theorem shA_step {G:Gl}{f g:Nat→Nat→Int}{s u:RS}{m k i:Nat}(h1:itr G 2 s m=some s)(hk:k<m)(hu:itr G 2 s k=some u):shA G f g (pth G 2 s m) i (k+1)=(crF G f g u.1 (rp u 2) (shA G f g (pth G 2 s m) i k)).toNat:=by
 have:(pth G 2 s m)[k]?=some u:=(pth_get (ring_all h1) k hk).trans hu
 simp only[shA,this]
def dist4 (a b c d:Nat):Prop:=a≠b∧a≠c∧a≠d∧b≠c∧b≠d∧c≠d
instance (a b c d:Nat):Decidable (dist4 a b c d):=by unfold dist4;infer_instance
section
variable {G:Gl}(hok:za9 G=true)
include hok
end
def tcB (G:Gl)(c:Nat):Bool:=(List.range (4*G.n)).any fun j=>decide (isF G j) && fN G j==c && decide (0≤G.tet j) && SignI (G.pm j)==1
def orF (G:Gl)(c i:Nat):Int:=if tcB G c then 1-i else i
theorem SignI_R (p:Nat→Int):SignI p=SignR p:=by unfold SignI SignR;rw[valid_same]
section
variable {G:Gl}(hok:za9 G=true)
include hok
theorem tc_at {k:Nat}(hk:k<4*G.n)(hf:isF G k):tcB G (fN G k)=true↔(0≤G.tet k∧SignR (G.pm k)=1):=by
 simp only[tcB,List.any_eq_true,List.mem_range,Bool.and_eq_true,decide_eq_true_eq,beq_iff_eq,SignI_R]
 constructor
 ·rintro⟨j,hj,⟨⟨h1,h2⟩,h3⟩,h4⟩
  rcases fN_eq hok hk hj h2.symm with e | ⟨t,e⟩
  ·subst e;exact⟨h3,h4⟩
  ·subst e;exact absurd hf ((isF_tb hok hk t).1 h1)
 ·rintro⟨h1,h2⟩
  exact⟨k,hk,⟨⟨hf,rfl⟩,h1⟩,h2⟩
end
end
section
structure BF where
 q:List Nat
 h:Nat→Bool
 tr:Nat→Bool
def bfF (G:Gl)(a f:Nat)(s:BF):BF:=
 if G.tet (4*a+f)<0∨s.h (G.T (4*a+f))=true then s
 else ⟨s.q++[G.T (4*a+f)],fun x=>x==G.T (4*a+f) || s.h x,fun k=>k==tb G (4*a+f) || (k==4*a+f || s.tr k)⟩
def bfI (G:Gl)(i:Nat)(s:BF):BF:=match s.q[i]? with
 | some a=>lp (bfF G a) s 4
 | none=>s
def bf0:BF:=⟨[0],fun x=>x==0,fun _=>false⟩
def bf (G:Gl)(m:Nat):BF:=lp (bfI G) bf0 m
def treeB (G:Gl)(k:Nat):Bool:=(bf G G.n).tr k
theorem bf_succ {G:Gl}{j a:Nat}(h:(bf G j).q[j]?=some a):bf G (j+1)=lp (bfF G a) (bf G j) 4:=by
 show bfI G j (bf G j)=_
 unfold bfI;rw[h]
theorem bf_stop {G:Gl}{j:Nat}(h:(bf G j).q.length≤j):∀m,bf G (j+m)=bf G j
 | 0=>rfl
 | m+1=>by
  have ih:=bf_stop h m
  show bfI G (j+m) (bf G (j+m))=_
  rw[ih]
  unfold bfI
  rw[List.getElem?_eq_none (by omega)]
theorem tree_fin {G:Gl}{j:Nat}(hj:j≤G.n)(h:(bf G j).q.length≤j):(bf G j).tr=treeB G:=by
 have:=bf_stop h (G.n-j)
 rw[show j+(G.n-j)=G.n by omega] at this
 show _=(bf G G.n).tr
 rw[this]
def BFok (G:Gl)(s:BF):Prop:=(∀q∈s.q,q<G.n)∧∀k,k<4*G.n→¬G.tet k<0→s.tr (tb G k)=s.tr k
section
variable {G:Gl}(hok:za9 G=true)
include hok
theorem bfF_ok {a f:Nat}(ha:a<G.n)(hf:f<4){s:BF}(h:BFok G s):BFok G (bfF G a f s):=by
 unfold bfF
 split
 ·exact h
 ·rename_i c
  have ht:¬G.tet (4*a+f)<0:=fun x=>c (.inl x)
  obtain⟨f1,f2,f3,f4,-⟩:=zd5 hok (show 4*a+f<4*G.n by omega) ht
  obtain⟨-,t2,-⟩:=zc6 hok (show 4*a+f<4*G.n by omega) ht
  refine⟨fun q hq=>?_,fun k hk hn=>?_⟩
  ·rcases List.mem_append.1 hq with x | x
   ·exact h.1 q x
   ·simp at x;omega
  ·obtain⟨g1,g2,g3,g4,-⟩:=zd5 hok hk hn
   show (tb G k==tb G (4*a+f) || (tb G k==4*a+f || s.tr (tb G k)))=(k==tb G (4*a+f) || (k==4*a+f || s.tr k))
   rw[h.2 k hk hn]
   have e1:(tb G k==tb G (4*a+f))=(k==4*a+f):=by
    rw[Bool.eq_iff_iff,beq_iff_eq,beq_iff_eq]
    exact⟨fun e=>by rw[←g3,e,f3],fun e=>by rw[e]⟩
   have e2:(tb G k==4*a+f)=(k==tb G (4*a+f)):=by
    rw[Bool.eq_iff_iff,beq_iff_eq,beq_iff_eq]
    exact⟨fun e=>by rw[←g3,e],fun e=>by rw[e,f3]⟩
   rw[e1,e2]
   cases (k==4*a+f)<;>cases (k==tb G (4*a+f))<;>rfl
theorem bf_ok (hn:0<G.n):∀m,BFok G (bf G m)
 | 0=>⟨fun q hq=>by simp[bf,bf0,lp] at hq;omega,fun _ _ _=>rfl⟩
 | m+1=>by
  have ih:=bf_ok hn m
  show BFok G (bfI G m (bf G m))
  unfold bfI
  split
  ·rename_i a ha
   have hq:=ih.1 a (List.mem_of_getElem? ha)
   exact lp_inv (p:=BFok G) ih (fun i hi s hs=>bfF_ok hok hq hi hs)
  ·exact ih
theorem tree_tb {k:Nat}(hk:k<4*G.n)(ht:¬G.tet k<0):treeB G (tb G k)=treeB G k:=(bf_ok hok (by omega) G.n).2 k hk ht
end
def genB (G:Gl)(k:Nat):Bool:=decide (0≤G.tet k) && (!treeB G k && decide (isF G k))
def gnN (G:Gl):Nat→Nat
 | 0=>0
 | k+1=>if genB G k then gnN G k+1 else gnN G k
def ltrI (G:Gl)(k:Nat):Int:=if genB G k then (gnN G k:Int)+1 else if 0≤G.tet k∧genB G (tb G k)=true then -((gnN G (tb G k):Int)+1) else 0
def ltrK (G:Gl)(m k:Nat):Int:=if genB G k∧k<m then (gnN G k:Int)+1 else if 0≤G.tet k∧genB G (tb G k)=true∧tb G k<m then -((gnN G (tb G k):Int)+1) else 0
theorem gnN_le (G:Gl):∀k,gnN G k≤k
 | 0=>Nat.le_refl _
 | k+1=>by
  have:=gnN_le G k
  simp only[gnN];split<;>omega
theorem gnN_mono (G:Gl){i j:Nat}(h:i≤j):gnN G i≤gnN G j:=by
 induction j with
 | zero=>rw[show i=0 by omega];exact Nat.le_refl _
 | succ j ih=>
  by_cases e:i=j+1
  ·rw[e];exact Nat.le_refl _
  ·have:=ih (by omega)
   simp only[gnN];split<;>omega
theorem gnN_lt {G:Gl}{k m:Nat}(hg:genB G k=true)(hk:k<m):gnN G k<gnN G m:=by
 have h1:=gnN_mono G (show k+1≤m by omega)
 have h2:gnN G (k+1)=gnN G k+1:=by simp only[gnN,hg,if_true]
 omega
theorem zd7 {G:Gl}{k:Nat}:genB G k=true↔0≤G.tet k∧treeB G k=false∧isF G k:=by
 simp[genB]
theorem ltrK_zero (G:Gl)(k:Nat):ltrK G 0 k=0:=by
 unfold ltrK
 rw[if_neg (by omega),if_neg (by omega)]
section
variable {G:Gl}(hok:za9 G=true)
include hok
theorem genB_tb {k:Nat}(hk:k<4*G.n)(hg:genB G k=true):genB G (tb G k)=false:=by
 obtain⟨h1,h2,h3⟩:=zd7.1 hg
 cases q:genB G (tb G k) with
 | false=>rfl
 | true=>exact absurd h3 ((isF_tb hok hk (by omega)).1 (zd7.1 q).2.2)
theorem ltrK_all {k:Nat}(hk:k<4*G.n):ltrK G (4*G.n) k=ltrI G k:=by
 unfold ltrK ltrI
 by_cases hg:genB G k=true
 ·rw[if_pos ⟨hg,hk⟩,if_pos hg]
 ·rw[if_neg (fun h=>hg h.1),if_neg hg]
  by_cases h2:0≤G.tet k∧genB G (tb G k)=true
  ·rw[if_pos ⟨h2.1,h2.2,(zd5 hok hk (by omega)).1⟩,if_pos h2]
  ·rw[if_neg (fun h=>h2 ⟨h.1,h.2.1⟩),if_neg h2]
theorem ltrK_skip {m:Nat}(hg:genB G m=false)(k:Nat):ltrK G (m+1) k=ltrK G m k:=by
 have _:=hok
 unfold ltrK
 have e1:(genB G k=true∧k<m+1)↔(genB G k=true∧k<m):=by
  constructor
  ·rintro⟨a,b⟩
   refine⟨a,?_⟩
   rcases Nat.lt_or_ge k m with c | c
   ·exact c
   ·rw[show k=m by omega,hg] at a;cases a
  ·rintro⟨a,b⟩;exact⟨a,by omega⟩
 have e2:(0≤G.tet k∧genB G (tb G k)=true∧tb G k<m+1)↔(0≤G.tet k∧genB G (tb G k)=true∧tb G k<m):=by
  constructor
  ·rintro⟨a,b,c⟩
   refine⟨a,b,?_⟩
   rcases Nat.lt_or_ge (tb G k) m with d | d
   ·exact d
   ·rw[show tb G k=m by omega,hg] at b;cases b
  ·rintro⟨a,b,c⟩;exact⟨a,b,by omega⟩
 simp only[e1,e2]
theorem ltrK_put {m:Nat}(hm:m<4*G.n)(hg:genB G m=true){k:Nat}(hk:k<4*G.n):ltrK G (m+1) k=if k=tb G m then -((gnN G m:Int)+1) else if k=m then (gnN G m:Int)+1 else ltrK G m k:=by
 obtain⟨h1,h2,h3⟩:=zd7.1 hg
 obtain⟨f1,f2,f3,f4,-⟩:=zd5 hok hm (by omega)
 have hgt:=genB_tb hok hm hg
 by_cases e:k=tb G m
 ·rw[if_pos e]
  unfold ltrK
  rw[if_neg (fun h=>by rw[e,hgt] at h;cases h.1),if_pos ⟨by rw[e];omega,by rw[e,f3];exact hg,by rw[e,f3];omega⟩,e,f3]
 ·rw[if_neg e]
  by_cases e2:k=m
  ·rw[if_pos e2];unfold ltrK;rw[if_pos ⟨by rw[e2];exact hg,by omega⟩,e2]
  ·rw[if_neg e2]
   unfold ltrK
   have e1:(genB G k=true∧k<m+1)↔(genB G k=true∧k<m):=⟨fun ⟨a,b⟩=>⟨a,by omega⟩,fun ⟨a,b⟩=>⟨a,by omega⟩⟩
   have e3:(0≤G.tet k∧genB G (tb G k)=true∧tb G k<m+1)↔(0≤G.tet k∧genB G (tb G k)=true∧tb G k<m):=by
    constructor
    ·rintro⟨a,b,c⟩
     refine⟨a,b,?_⟩
     rcases Nat.lt_or_ge (tb G k) m with d | d
     ·exact d
     ·exfalso
      have:tb G k=m:=by omega
      apply e
      rw[←this,(zd5 hok hk (by omega)).2.2.1]
    ·rintro⟨a,b,c⟩;exact⟨a,b,by omega⟩
   simp only[e1,e3]
theorem ltrK_first {m:Nat}(hm:m<4*G.n)(ht:0≤G.tet m)(htr:treeB G m=false):ltrK G m m=0↔isF G m:=by
 obtain⟨f1,f2,f3,f4,-⟩:=zd5 hok hm (by omega)
 have hI:=isF_tb hok hm (by omega)
 unfold ltrK
 rw[if_neg (by omega)]
 constructor
 ·intro h
  by_cases c:isF G m
  ·exact c
  ·exfalso
   have c2:=hI.2 c
   have hgb:genB G (tb G m)=true:=zd7.2 ⟨by omega,by rw[tree_tb hok hm (by omega)];exact htr,c2⟩
   have hlt:tb G m<m:=by
    rcases c2 with c2 | c2
    ·omega
    ·rw[f3] at c2;exact c2
   rw[if_pos ⟨ht,hgb,hlt⟩] at h
   omega
 ·intro h
  rw[if_neg ?_]
  rintro⟨-,b,c⟩
  exact (hI.1 (zd7.1 b).2.2) h
end
end
end Go.Proofs.Ytlckpgahijlmoaa
