/- R01.Parse of the one text that sane reads. -/
import Derived.Test.YtlckpgahijlmoaaQ18
import Derived.Test.YtlckpgahijlmoaaQ11
import Derived.Great.Walk
set_option maxRecDepth 100000
set_option maxHeartbeats 8000000
namespace Go.Proofs.Ytlckpgahijlmoaa
section
open Go.RowKit Go.Shelf Go.Sort
theorem checkI_bad {G:Gl}{k:Nat}(hk:k<4*G.n)(h:okB G k=false):zd6 G=7:=by
 have:za9 G=false:=by
  rw[za9,all_range_false hk h,Bool.and_false]
 rw[zd6,this];rfl
theorem checkI_large {G:Gl}(h:1000<G.n):zd6 G=7:=by
 have:za9 G=false:=by
  rw[za9,decide_eq_false (by omega),Bool.false_and]
 rw[zd6,this];rfl
theorem checkI_all {G:Gl}(hn:G.n≤1000)(h:∀k,k<4*G.n→okB G k=true):zd6 G=0:=by
 have:za9 G=true:=by
  rw[za9,decide_eq_true hn,Bool.true_and,List.all_eq_true]
  exact fun k hk=>h k (List.mem_range.1 hk)
 rw[zd6,this];rfl
theorem valid_same (p:Nat→Int):validR p=zc9 p:=by
 by_cases h:∀i,i<4→inB (p i)=true
 ·have key:∀a b c d:Fin 4,∀q:Nat→Int,q 0=(a.val:Int)→q 1=(b.val:Int)→q 2=(c.val:Int)→q 3=(d.val:Int)→validR q=zc9 q:=by
   intro a b c d q h0 h1 h2 h3
   have e:∀a b c d:Fin 4,validR (fun i=>if i=0 then (a.val:Int) else if i=1 then (b.val:Int) else if i=2 then (c.val:Int) else (d.val:Int))=zc9 (fun i=>if i=0 then (a.val:Int) else if i=1 then (b.val:Int) else if i=2 then (c.val:Int) else (d.val:Int)):=by decide +kernel
   have v1:validR q=validR (fun i=>if i=0 then (a.val:Int) else if i=1 then (b.val:Int) else if i=2 then (c.val:Int) else (d.val:Int)):=by
    simp[validR,seenF,List.range_succ,h0,h1,h2,h3]
   have v2:zc9 q=zc9 (fun i=>if i=0 then (a.val:Int) else if i=1 then (b.val:Int) else if i=2 then (c.val:Int) else (d.val:Int)):=by
    simp[zc9,all4,maskF,h0,h1,h2,h3]
   rw[v1,v2,e]
  have g:=fun i hi=>zf2.1 (h i hi)
  have g0:=g 0 (by omega);have g1:=g 1 (by omega);have g2:=g 2 (by omega);have g3:=g 3 (by omega)
  exact key ⟨(p 0).toNat,by omega⟩ ⟨(p 1).toNat,by omega⟩ ⟨(p 2).toNat,by omega⟩ ⟨(p 3).toNat,by omega⟩ p (by simp;omega) (by simp;omega) (by simp;omega) (by simp;omega)
 ·have h1:validR p=false:=by
   rw[Bool.eq_false_iff];intro hv;exact h (validR_in hv)
  have h2:zc9 p=false:=by
   rw[Bool.eq_false_iff];intro hv
   simp only[zc9,Bool.and_eq_true] at hv
   exact h (all4_iff.1 hv.1)
  rw[h1,h2]
theorem checkRI_walk (G:Gl)(w:World)(v:Value)(hG:GlAt w.heap.size w v G)(hm:G.n≤9223372036854775807) :
  Calls Try.prog 24 #[.agg #[v]] w fun e w'=>e=.returned (.int .i64 (zd6 G))∧Below w.heap.size w w':=by
 obtain⟨a,b,off,cap,rfl,hga,hgc⟩:=hG
 have HGC:=Hd2 hga hgc;clear hga hgc
 rcases Nat.lt_or_ge 1000 G.n with hbig | hn
 ·have q0:decide ((1000:Int)<(G.n:Int))=true:=by simp;omega
  have HBAD:=Lib.hid (checkI_large hbig)
  clear hbig
  go_enter Try.func24,Try.ntmps24
  go_wp2
  go_ret
  exact⟨by rw[HBAD.out];rfl,by (repeat' (first | assumption | exact Below.refl _ _ | refine za7 ?_ (by assumption) | refine zb2 ?_ _ | refine za5 ?_ | refine zb1 ?_ (by simp<;>omega) _))⟩
 go_enter Try.func24,Try.ntmps24
 go_wp2
 refine zb3 fun W1 hW=>?_
 have h1:W1.cell? ⟨w.heap.size,0,none⟩=some (.slice a G.n cap)∧Below w.heap.size w W1:=by
  rw[hW];exact⟨by simp[go_sem],by (repeat' (first | assumption | exact Below.refl _ _ | refine za7 ?_ (by assumption) | refine zb2 ?_ _ | refine za5 ?_ | refine zb1 ?_ (by simp<;>omega) _))⟩
 have H1:=Lib.hid h1;clear h1 hW
 obtain⟨N,hN⟩:∃N,w.heap.size=N:=⟨_,rfl⟩
 have HN:=Lib.hid hN
 rw[hN] at H1 HGC ⊢
 clear hN
 go_loopw [4] (fun i wr=>∃t:Nat,t≤G.n∧i=.int .i64 t∧(∀k,k<4*t→okB G k=true)∧wr.cell? ⟨N,0,none⟩=some (.slice a G.n cap)∧Below N w wr) (fun i _=>G.n-(intOf i).toNat)
 case atStart=>exact⟨0,by omega,rfl,fun k hk=>absurd hk (by omega),H1.out⟩
 case round=>
  clear H1
  obtain⟨t,ht,rfl,hal,hc,hb⟩:=hrel
  have HAL:=Lib.hid hal
  clear hal
  have HK:=Hd2 hc hb
  rcases Nat.lt_or_ge t G.n with htn | htn
  ·obtain⟨hga,hgc⟩:=HGC.out
   obtain⟨rfl,hbB⟩:=hga (by omega)
   clear hc hb hga hgc
   go_wp2
   go_loopw [5] (fun i wr=>∃f:Nat,f≤4∧i=.int .i64 f∧(∀k,k<4*t+f→okB G k=true)∧wr.cell? ⟨N,0,none⟩=some (.slice (some ⟨b,off,none⟩) G.n cap)∧Below N w wr) (fun i _=>4-(intOf i).toNat)
   case atStart=>exact⟨0,by omega,rfl,HAL.out,HK.out⟩
   case round=>
    clear HK HAL
    obtain⟨f,hf,rfl,hal,hc,hb⟩:=hrel
    have HAL:=Lib.hid hal
    clear hal
    have HK:=Hd2 hc hb
    rcases Nat.lt_or_ge f 4 with hf4 | hf4
    ·have hk:4*t+f<4*G.n:=by omega
     obtain⟨hga,hgc⟩:=HGC.out
     have hbN:∀o x,w.cell? ⟨b,o,none⟩=some x→wr.cell? ⟨b,o,none⟩=some x:=fun o x hx=>(hb.cell (p:=⟨b,o,none⟩) (by exact hbB)).trans hx
     have hkk:=hgc (4*t+f) hk
     rw[show off+5*(4*t+f)=off+t*20+f*5 by omega] at hkk
     have p:=hbN _ _ hkk.1
     have p0:wr.cell? ⟨b,off+t*20+f*5+1,none⟩=some (.int .i64 (G.pm (4*t+f) 0)):=hbN _ _ (hkk.2 0 (by omega))
     have p1:wr.cell? ⟨b,off+t*20+f*5+2,none⟩=some (.int .i64 (G.pm (4*t+f) 1)):=hbN _ _ (hkk.2 1 (by omega))
     have p2:wr.cell? ⟨b,off+t*20+f*5+3,none⟩=some (.int .i64 (G.pm (4*t+f) 2)):=hbN _ _ (hkk.2 2 (by omega))
     have p3:wr.cell? ⟨b,off+t*20+f*5+4,none⟩=some (.int .i64 (G.pm (4*t+f) 3)):=hbN _ _ (hkk.2 3 (by omega))
     have t0:0≤(t:Int):=by omega
     have tn:(t:Int)<(G.n:Int):=by omega
     have f0:0≤(f:Int):=by omega
     have f4:(f:Int)<4:=by omega
     by_cases hno:noneB G (4*t+f)=true
     ·simp only[noneB,all4,Bool.and_eq_true,beq_iff_eq] at hno
      obtain⟨n1,⟨⟨n2,n3⟩,n4⟩,n5⟩:=hno
      rw[n1] at p
      rw[n2] at p0
      rw[n3] at p1
      rw[n4] at p2
      rw[n5] at p3
      have HOKK:=Lib.hid (show okB G (4*t+f)=true by simp[okB,noneB,all4,n1,n2,n3,n4,n5])
      have he:∀w,(Op.equalIn 10000 85 (.agg #[.int .i64 0,.int .i64 0,.int .i64 0,.int .i64 0]) (.agg #[.int .i64 0,.int .i64 0,.int .i64 0,.int .i64 0])).run Try.prog w=.ok true w:=fun w=>run_equal_P4r 9998 0 0 0 0 w
      clear hga hgc hbN hkk n1 n2 n3 n4 n5 hb
      go_wp2
      go_roundw
      case rel=>exact⟨f+1,by omega,rfl,(fun k hk=>by
        rcases Nat.lt_or_ge k (4*t+f) with h | h
        ·exact HAL.out k h
        ·rw[show k=4*t+f by omega];exact HOKK.out),za4 HK.out.1 _,HK.out.2.alloc (by have:=HK.out.2.size;have:=HN.out;omega) _⟩
      case measure=>simp[intOf];omega
     ·have hno':noneB G (4*t+f)=false:=by simpa using hno
      have km:(4*t+f) % 4=f:=by omega
      have kd:(4*t+f) / 4=t:=by omega
      have HNO:=Lib.hid hno'
      have hNwr:N≤wr.heap.size:=by have:=HK.out.2.size;have:=HN.out;omega
      rcases Int.lt_or_le (G.tet (4*t+f)) 0 with h0 | h0
      ·have HBAD:=Lib.hid (checkI_bad hk (show okB G (4*t+f)=false by simp[okB,hno',inTetB];omega))
       have d0:decide (G.tet (4*t+f)<0)=true:=by simpa using h0
       by_cases hm1:G.tet (4*t+f)=-1
       ·have he:∀w,(Op.equalIn 10000 85 (.agg #[.int .i64 (G.pm (4*t+f) 0),.int .i64 (G.pm (4*t+f) 1),.int .i64 (G.pm (4*t+f) 2),.int .i64 (G.pm (4*t+f) 3)]) (.agg #[.int .i64 0,.int .i64 0,.int .i64 0,.int .i64 0])).run Try.prog w=.ok false w:=fun w=>by
         rw[show (10000:Nat)=9998+1+1 from rfl,run_equal_P4]
         have:noneB G (4*t+f)=false:=hno'
         rw[noneB,hm1] at this
         simp only[all4,beq_self_eq_true,Bool.true_and] at this
         rw[←this];simp[Bool.and_assoc]
        rw[hm1] at p d0
        clear hga hgc hbN hkk hno hno' h0 hm1 hb
        go_wp2
        go_ret
        exact⟨by rw[HBAD.out];rfl,HN.out▸HK.out.2.alloc hNwr _⟩
       ·have dm1:(G.tet (4*t+f)==-1)=false:=by simpa using hm1
        clear hga hgc hbN hkk hno hno' h0 hm1 hb
        go_wp2
        go_ret
        exact⟨by rw[HBAD.out];rfl,HN.out▸HK.out.2.alloc hNwr _⟩
      have dm1:(G.tet (4*t+f)==-1)=false:=by simp;omega
      have d0:decide (G.tet (4*t+f)<0)=false:=by simp;omega
      rcases Int.lt_or_le (G.tet (4*t+f)) (G.n:Int) with h1 | h1
      ·have d1:decide ((G.n:Int)≤G.tet (4*t+f))=false:=by simp;omega
       cases hvr:validR (G.pm (4*t+f)) with
       | false=>
        have HBAD:=Lib.hid (checkI_bad hk (show okB G (4*t+f)=false by
         have:zc9 (G.p (4*t+f))=false:=by rw[←valid_same];exact hvr
         simp[okB,hno',this]))
        have cV:=fun W=>zf0 (G.pm (4*t+f)) W
        rw[hvr] at cV
        unfold P4 at cV
        have HV:=Lib.hid cV
        clear hga hgc hbN hkk hno hno' hvr cV hb
        go_wp2_with (go_at_call 63;(with_reducible refine (HV.out _).mono ?_);rintro e w1 ⟨rfl,hb1⟩;have HB1:=Lib.hid hb1;clear hb1)
        go_ret
        exact⟨by rw[HBAD.out];rfl,HN.out▸(HK.out.2.alloc hNwr _).trans (HB1.out.mono (by simp;omega))⟩
       | true=>
        cases hsf:selfB G (4*t+f) with
        | true=>
         have HBAD:=Lib.hid (checkI_bad hk (show okB G (4*t+f)=false by simp[okB,hno',hsf]))
         rw[selfB,km,kd,Bool.and_eq_true] at hsf
         obtain⟨e1,e2⟩:=hsf
         have cV:=fun W=>zf0 (G.pm (4*t+f)) W
         rw[hvr] at cV
         unfold P4 at cV
         have HV:=Lib.hid cV
         have hX:∀(W W':World),W=wr.alloc (.cells #[.int .i64 (G.tet (4*t+f)),.int .i64 (G.pm (4*t+f) 0),.int .i64 (G.pm (4*t+f) 1),.int .i64 (G.pm (4*t+f) 2),.int .i64 (G.pm (4*t+f) 3)] 87)→Below W.heap.size W W'→W'.cell? ⟨wr.heap.size,0,none⟩=some (.int .i64 (G.tet (4*t+f)))∧W'.cell? ⟨wr.heap.size,1+f,none⟩=some (.int .i64 (G.pm (4*t+f) f))∧Below N w W':=by
          intro W W' hWe hb1
          obtain⟨hold,hnew,hB⟩:=copied (pm:=G.pm (4*t+f)) hNwr HK.out.2 hWe hb1
          exact⟨hnew 0 _ rfl,hnew _ _ (zf8 _ _ f hf4),hB⟩
         have HX:=Lib.hid hX
         clear hga hgc hbN hkk hno hno' hvr cV hb hX
         go_wp2_with (go_at_call 63;(with_reducible refine (HV.out _).mono ?_);rintro e w1 ⟨rfl,hb1⟩;obtain⟨x0,xf,xb⟩:=HX.out _ _ rfl hb1;have HB1:=Lib.hid xb;clear hb1 xb)
         go_ret
         exact⟨by rw[HBAD.out];rfl,HN.out▸HB1.out⟩
        | false=>
         have hin:=zf2.1 (validR_in hvr f hf4)
         cases hmt:matchB G (4*t+f) with
         | true=>
          have HOKK:=Lib.hid (show okB G (4*t+f)=true by
           have hv:zc9 (G.p (4*t+f))=true:=by rw[←valid_same];exact hvr
           simp[okB,hno',inTetB,h0,h1,hv,hsf,hmt])
          have hbk:G.back (4*t+f)<4*G.n:=by unfold Gl.back;rw[km];omega
          have hcj:=hgc (G.back (4*t+f)) hbk
          have ea:off+5*G.back (4*t+f)=off+(G.tet (4*t+f)).toNat*20+(G.pm (4*t+f) f).toNat*5:=by unfold Gl.back;rw[km];omega
          rw[ea] at hcj
          obtain⟨J,hJ⟩:∃J,J=G.back (4*t+f):=⟨_,rfl⟩
          rw[←hJ] at hcj
          have g0:=hbN _ _ hcj.1
          have g1:=hbN _ _ (hcj.2 0 (by omega))
          have g2:=hbN _ _ (hcj.2 1 (by omega))
          have g3:=hbN _ _ (hcj.2 2 (by omega))
          have g4:=hbN _ _ (hcj.2 3 (by omega))
          have hme:(G.tet J==(t:Int) && (G.pm J 0==invF (G.pm (4*t+f)) 0 && (G.pm J 1==invF (G.pm (4*t+f)) 1 && (G.pm J 2==invF (G.pm (4*t+f)) 2 && G.pm J 3==invF (G.pm (4*t+f)) 3))))=true:=by
           have h:=hmt
           rw[matchB,←hJ,kd] at h
           have hpp:G.p (4*t+f)=G.pm (4*t+f):=rfl
           rw[hpp] at h
           simpa [all4,Bool.and_assoc] using h
          have hsf2:(G.tet (4*t+f)==(t:Int) && G.pm (4*t+f) f==(f:Int))=false:=by rw[selfB,km,kd] at hsf;exact hsf
          have hy0:=hin.1
          have hy1:G.pm (4*t+f) f<4:=by omega
          have cV:=fun W=>zf0 (G.pm (4*t+f)) W
          rw[hvr] at cV
          have cI:=fun W=>inverseR_walk (G.pm (4*t+f)) W hvr
          unfold P4 at cV cI
          have HV:=Hd2 cV cI
          have HM:=Lib.hid hme
          obtain⟨D,hD⟩:∃D,D=wr.heap.size:=⟨_,rfl⟩
          have hND:N≤D:=by have:=HK.out.2.size;have:=HN.out;omega
          clear hga hgc hbN hkk hno hno' hsf hmt hvr hin hcj ea hJ hme cV cI hb hbk
          have hE:((G.tet (4*t+f)==(t:Int))=true∧(G.pm (4*t+f) f==(f:Int))=false)∨(G.tet (4*t+f)==(t:Int))=false:=by
           cases h:(G.tet (4*t+f)==(t:Int)) with
           | true=>rw[h,Bool.true_and] at hsf2;exact .inl ⟨rfl,hsf2⟩
           | false=>exact .inr rfl
          clear hsf2
          have hX:∀(W W':World),W=wr.alloc (.cells #[.int .i64 (G.tet (4*t+f)),.int .i64 (G.pm (4*t+f) 0),.int .i64 (G.pm (4*t+f) 1),.int .i64 (G.pm (4*t+f) 2),.int .i64 (G.pm (4*t+f) 3)] 87)→Below W.heap.size W W'→W'.cell? ⟨wr.heap.size,0,none⟩=some (.int .i64 (G.tet (4*t+f)))∧W'.cell? ⟨wr.heap.size,1,none⟩=some (.int .i64 (G.pm (4*t+f) 0))∧W'.cell? ⟨wr.heap.size,2,none⟩=some (.int .i64 (G.pm (4*t+f) 1))∧W'.cell? ⟨wr.heap.size,3,none⟩=some (.int .i64 (G.pm (4*t+f) 2))∧W'.cell? ⟨wr.heap.size,4,none⟩=some (.int .i64 (G.pm (4*t+f) 3))∧W'.cell? ⟨wr.heap.size,1+f,none⟩=some (.int .i64 (G.pm (4*t+f) f))∧W'.cell? ⟨N,0,none⟩=some (.slice (some ⟨b,off,none⟩) G.n cap)∧(W'.cell? ⟨b,off+(G.tet (4*t+f)).toNat*20+(G.pm (4*t+f) f).toNat*5,none⟩=some (.int .i64 (G.tet J))∧W'.cell? ⟨b,off+(G.tet (4*t+f)).toNat*20+(G.pm (4*t+f) f).toNat*5+1,none⟩=some (.int .i64 (G.pm J 0))∧W'.cell? ⟨b,off+(G.tet (4*t+f)).toNat*20+(G.pm (4*t+f) f).toNat*5+2,none⟩=some (.int .i64 (G.pm J 1))∧W'.cell? ⟨b,off+(G.tet (4*t+f)).toNat*20+(G.pm (4*t+f) f).toNat*5+3,none⟩=some (.int .i64 (G.pm J 2))∧W'.cell? ⟨b,off+(G.tet (4*t+f)).toNat*20+(G.pm (4*t+f) f).toNat*5+4,none⟩=some (.int .i64 (G.pm J 3)))∧Below N w W':=by
           intro W W' hWe hb1
           obtain⟨hold,hnew,hB⟩:=copied (pm:=G.pm (4*t+f)) (by have:=HK.out.2.size;have:=HN.out;omega) HK.out.2 hWe hb1
           exact⟨hnew 0 _ rfl,hnew 1 _ rfl,hnew 2 _ rfl,hnew 3 _ rfl,hnew 4 _ rfl,hnew _ _ (zf8 _ _ f hf4),hold _ _ HK.out.1,⟨hold _ _ g0,hold _ _ g1,hold _ _ g2,hold _ _ g3,hold _ _ g4⟩,hB⟩
          have HX:=Lib.hid hX
          clear hX g0 g1 g2 g3 g4
          rcases hE with ⟨e1,e2⟩ | e1
          ·go_wp2_with (go_at_call 63;(with_reducible refine (HV.out.1 _).mono ?_);rintro e w1 ⟨rfl,hb1⟩;obtain⟨x0,x1,x2,x3,x4,xf,xc,xg,xb⟩:=HX.out _ _ rfl hb1;have H1:=Hd3 xg xb hb1;clear hb1 xg xb)
           obtain⟨⟨g0,g1,g2,g3,g4⟩,xb,hb1⟩:=H1.out
           replace x0:w1.drew.cell? ⟨wr.heap.size,0,none⟩=some (.int .i64 (G.tet (4*t+f))):=x0
           replace x1:w1.drew.cell? ⟨wr.heap.size,1,none⟩=some (.int .i64 (G.pm (4*t+f) 0)):=x1
           replace x2:w1.drew.cell? ⟨wr.heap.size,2,none⟩=some (.int .i64 (G.pm (4*t+f) 1)):=x2
           replace x3:w1.drew.cell? ⟨wr.heap.size,3,none⟩=some (.int .i64 (G.pm (4*t+f) 2)):=x3
           replace x4:w1.drew.cell? ⟨wr.heap.size,4,none⟩=some (.int .i64 (G.pm (4*t+f) 3)):=x4
           replace xf:w1.drew.cell? ⟨wr.heap.size,1+f,none⟩=some (.int .i64 (G.pm (4*t+f) f)):=xf
           replace xc:w1.drew.cell? ⟨N,0,none⟩=some (.slice (some ⟨b,off,none⟩) G.n cap):=xc
           replace g0:w1.drew.cell? ⟨b,off+(G.tet (4*t+f)).toNat*20+(G.pm (4*t+f) f).toNat*5,none⟩=some (.int .i64 (G.tet J)):=g0
           replace g1:w1.drew.cell? ⟨b,off+(G.tet (4*t+f)).toNat*20+(G.pm (4*t+f) f).toNat*5+1,none⟩=some (.int .i64 (G.pm J 0)):=g1
           replace g2:w1.drew.cell? ⟨b,off+(G.tet (4*t+f)).toNat*20+(G.pm (4*t+f) f).toNat*5+2,none⟩=some (.int .i64 (G.pm J 1)):=g2
           replace g3:w1.drew.cell? ⟨b,off+(G.tet (4*t+f)).toNat*20+(G.pm (4*t+f) f).toNat*5+3,none⟩=some (.int .i64 (G.pm J 2)):=g3
           replace g4:w1.drew.cell? ⟨b,off+(G.tet (4*t+f)).toNat*20+(G.pm (4*t+f) f).toNat*5+4,none⟩=some (.int .i64 (G.pm J 3)):=g4
           have lx0:=za0 x0
           have lx1:=za0 x1
           have lx2:=za0 x2
           have lx3:=za0 x3
           have lx4:=za0 x4
           have lxf:=za0 xf
           have lxc:=za0 xc
           have lg0:=za0 g0
           have lg1:=za0 g1
           have lg2:=za0 g2
           have lg3:=za0 g3
           have lg4:=za0 g4
           simp only at lx0 lx1 lx2 lx3 lx4 lxf lxc lg0 lg1 lg2 lg3 lg4
           have HB:=Lib.hid (za5 xb)
           clear xb hb1
           have he2:=fun w=>zc5 (G.tet J) (t:Int) (G.pm J 0) (G.pm J 1) (G.pm J 2) (G.pm J 3) (invF (G.pm (4*t+f)) 0) (invF (G.pm (4*t+f)) 1) (invF (G.pm (4*t+f)) 2) (invF (G.pm (4*t+f)) 3) w
           simp only[HM.out] at he2
           go_region_held3 (fun w'=>w'.cell? ⟨wr.heap.size,0,none⟩=some (.int .i64 (G.tet (4*t+f)))∧w'.cell? ⟨wr.heap.size,1,none⟩=some (.int .i64 (G.pm (4*t+f) 0))∧w'.cell? ⟨wr.heap.size,2,none⟩=some (.int .i64 (G.pm (4*t+f) 1))∧w'.cell? ⟨wr.heap.size,3,none⟩=some (.int .i64 (G.pm (4*t+f) 2))∧w'.cell? ⟨wr.heap.size,4,none⟩=some (.int .i64 (G.pm (4*t+f) 3))∧w'.cell? ⟨wr.heap.size,1+f,none⟩=some (.int .i64 (G.pm (4*t+f) f))∧w'.cell? ⟨N,0,none⟩=some (.slice (some ⟨b,off,none⟩) G.n cap)∧w'.cell? ⟨b,off+(G.tet (4*t+f)).toNat*20+(G.pm (4*t+f) f).toNat*5,none⟩=some (.int .i64 (G.tet J))∧w'.cell? ⟨b,off+(G.tet (4*t+f)).toNat*20+(G.pm (4*t+f) f).toNat*5+1,none⟩=some (.int .i64 (G.pm J 0))∧w'.cell? ⟨b,off+(G.tet (4*t+f)).toNat*20+(G.pm (4*t+f) f).toNat*5+2,none⟩=some (.int .i64 (G.pm J 1))∧w'.cell? ⟨b,off+(G.tet (4*t+f)).toNat*20+(G.pm (4*t+f) f).toNat*5+3,none⟩=some (.int .i64 (G.pm J 2))∧w'.cell? ⟨b,off+(G.tet (4*t+f)).toNat*20+(G.pm (4*t+f) f).toNat*5+4,none⟩=some (.int .i64 (G.pm J 3)))
            (first
             | exact⟨x0,x1,x2,x3,x4,xf,xc,g0,g1,g2,g3,g4⟩
             | exact⟨(hb2.cell (p:=⟨wr.heap.size,_,none⟩) (by exact lx0)).trans x0,(hb2.cell (p:=⟨wr.heap.size,_,none⟩) (by exact lx1)).trans x1,(hb2.cell (p:=⟨wr.heap.size,_,none⟩) (by exact lx2)).trans x2,(hb2.cell (p:=⟨wr.heap.size,_,none⟩) (by exact lx3)).trans x3,(hb2.cell (p:=⟨wr.heap.size,_,none⟩) (by exact lx4)).trans x4,(hb2.cell (p:=⟨wr.heap.size,_,none⟩) (by exact lxf)).trans xf,(hb2.cell (p:=⟨N,_,none⟩) (by exact lxc)).trans xc,(hb2.cell (p:=⟨b,_,none⟩) (by exact lg0)).trans g0,(hb2.cell (p:=⟨b,_,none⟩) (by exact lg1)).trans g1,(hb2.cell (p:=⟨b,_,none⟩) (by exact lg2)).trans g2,(hb2.cell (p:=⟨b,_,none⟩) (by exact lg3)).trans g3,(hb2.cell (p:=⟨b,_,none⟩) (by exact lg4)).trans g4⟩)
            (first|(go_at_call 64;(with_reducible refine (HV.out.2 _).mono ?_);rintro e w2 ⟨rfl,hb2⟩))
           go_wp2
           go_roundw
           case rel=>exact⟨f+1,by omega,rfl,(fun k hk=>by
            rcases Nat.lt_or_ge k (4*t+f) with h | h
            ·exact HAL.out k h
            ·rw[show k=4*t+f by omega];exact HOKK.out),(hb2.cell (p:=⟨N,0,none⟩) (by exact lxc)).trans xc,HB.out.trans (hb2.mono (by simp at lxc ⊢;omega))⟩
           case measure=>simp[intOf];omega
          ·go_wp2_with (go_at_call 63;(with_reducible refine (HV.out.1 _).mono ?_);rintro e w1 ⟨rfl,hb1⟩;obtain⟨x0,x1,x2,x3,x4,xf,xc,xg,xb⟩:=HX.out _ _ rfl hb1;have H1:=Hd3 xg xb hb1;clear hb1 xg xb)
           obtain⟨⟨g0,g1,g2,g3,g4⟩,xb,hb1⟩:=H1.out
           replace x0:w1.drew.cell? ⟨wr.heap.size,0,none⟩=some (.int .i64 (G.tet (4*t+f))):=x0
           replace x1:w1.drew.cell? ⟨wr.heap.size,1,none⟩=some (.int .i64 (G.pm (4*t+f) 0)):=x1
           replace x2:w1.drew.cell? ⟨wr.heap.size,2,none⟩=some (.int .i64 (G.pm (4*t+f) 1)):=x2
           replace x3:w1.drew.cell? ⟨wr.heap.size,3,none⟩=some (.int .i64 (G.pm (4*t+f) 2)):=x3
           replace x4:w1.drew.cell? ⟨wr.heap.size,4,none⟩=some (.int .i64 (G.pm (4*t+f) 3)):=x4
           replace xf:w1.drew.cell? ⟨wr.heap.size,1+f,none⟩=some (.int .i64 (G.pm (4*t+f) f)):=xf
           replace xc:w1.drew.cell? ⟨N,0,none⟩=some (.slice (some ⟨b,off,none⟩) G.n cap):=xc
           replace g0:w1.drew.cell? ⟨b,off+(G.tet (4*t+f)).toNat*20+(G.pm (4*t+f) f).toNat*5,none⟩=some (.int .i64 (G.tet J)):=g0
           replace g1:w1.drew.cell? ⟨b,off+(G.tet (4*t+f)).toNat*20+(G.pm (4*t+f) f).toNat*5+1,none⟩=some (.int .i64 (G.pm J 0)):=g1
           replace g2:w1.drew.cell? ⟨b,off+(G.tet (4*t+f)).toNat*20+(G.pm (4*t+f) f).toNat*5+2,none⟩=some (.int .i64 (G.pm J 1)):=g2
           replace g3:w1.drew.cell? ⟨b,off+(G.tet (4*t+f)).toNat*20+(G.pm (4*t+f) f).toNat*5+3,none⟩=some (.int .i64 (G.pm J 2)):=g3
           replace g4:w1.drew.cell? ⟨b,off+(G.tet (4*t+f)).toNat*20+(G.pm (4*t+f) f).toNat*5+4,none⟩=some (.int .i64 (G.pm J 3)):=g4
           have lx0:=za0 x0
           have lx1:=za0 x1
           have lx2:=za0 x2
           have lx3:=za0 x3
           have lx4:=za0 x4
           have lxf:=za0 xf
           have lxc:=za0 xc
           have lg0:=za0 g0
           have lg1:=za0 g1
           have lg2:=za0 g2
           have lg3:=za0 g3
           have lg4:=za0 g4
           simp only at lx0 lx1 lx2 lx3 lx4 lxf lxc lg0 lg1 lg2 lg3 lg4
           have HB:=Lib.hid (za5 xb)
           clear xb hb1
           have he2:=fun w=>zc5 (G.tet J) (t:Int) (G.pm J 0) (G.pm J 1) (G.pm J 2) (G.pm J 3) (invF (G.pm (4*t+f)) 0) (invF (G.pm (4*t+f)) 1) (invF (G.pm (4*t+f)) 2) (invF (G.pm (4*t+f)) 3) w
           simp only[HM.out] at he2
           go_region_held3 (fun w'=>w'.cell? ⟨wr.heap.size,0,none⟩=some (.int .i64 (G.tet (4*t+f)))∧w'.cell? ⟨wr.heap.size,1,none⟩=some (.int .i64 (G.pm (4*t+f) 0))∧w'.cell? ⟨wr.heap.size,2,none⟩=some (.int .i64 (G.pm (4*t+f) 1))∧w'.cell? ⟨wr.heap.size,3,none⟩=some (.int .i64 (G.pm (4*t+f) 2))∧w'.cell? ⟨wr.heap.size,4,none⟩=some (.int .i64 (G.pm (4*t+f) 3))∧w'.cell? ⟨wr.heap.size,1+f,none⟩=some (.int .i64 (G.pm (4*t+f) f))∧w'.cell? ⟨N,0,none⟩=some (.slice (some ⟨b,off,none⟩) G.n cap)∧w'.cell? ⟨b,off+(G.tet (4*t+f)).toNat*20+(G.pm (4*t+f) f).toNat*5,none⟩=some (.int .i64 (G.tet J))∧w'.cell? ⟨b,off+(G.tet (4*t+f)).toNat*20+(G.pm (4*t+f) f).toNat*5+1,none⟩=some (.int .i64 (G.pm J 0))∧w'.cell? ⟨b,off+(G.tet (4*t+f)).toNat*20+(G.pm (4*t+f) f).toNat*5+2,none⟩=some (.int .i64 (G.pm J 1))∧w'.cell? ⟨b,off+(G.tet (4*t+f)).toNat*20+(G.pm (4*t+f) f).toNat*5+3,none⟩=some (.int .i64 (G.pm J 2))∧w'.cell? ⟨b,off+(G.tet (4*t+f)).toNat*20+(G.pm (4*t+f) f).toNat*5+4,none⟩=some (.int .i64 (G.pm J 3)))
            (first
             | exact⟨x0,x1,x2,x3,x4,xf,xc,g0,g1,g2,g3,g4⟩
             | exact⟨(hb2.cell (p:=⟨wr.heap.size,_,none⟩) (by exact lx0)).trans x0,(hb2.cell (p:=⟨wr.heap.size,_,none⟩) (by exact lx1)).trans x1,(hb2.cell (p:=⟨wr.heap.size,_,none⟩) (by exact lx2)).trans x2,(hb2.cell (p:=⟨wr.heap.size,_,none⟩) (by exact lx3)).trans x3,(hb2.cell (p:=⟨wr.heap.size,_,none⟩) (by exact lx4)).trans x4,(hb2.cell (p:=⟨wr.heap.size,_,none⟩) (by exact lxf)).trans xf,(hb2.cell (p:=⟨N,_,none⟩) (by exact lxc)).trans xc,(hb2.cell (p:=⟨b,_,none⟩) (by exact lg0)).trans g0,(hb2.cell (p:=⟨b,_,none⟩) (by exact lg1)).trans g1,(hb2.cell (p:=⟨b,_,none⟩) (by exact lg2)).trans g2,(hb2.cell (p:=⟨b,_,none⟩) (by exact lg3)).trans g3,(hb2.cell (p:=⟨b,_,none⟩) (by exact lg4)).trans g4⟩)
            (first|(go_at_call 64;(with_reducible refine (HV.out.2 _).mono ?_);rintro e w2 ⟨rfl,hb2⟩))
           go_wp2
           go_roundw
           case rel=>exact⟨f+1,by omega,rfl,(fun k hk=>by
            rcases Nat.lt_or_ge k (4*t+f) with h | h
            ·exact HAL.out k h
            ·rw[show k=4*t+f by omega];exact HOKK.out),(hb2.cell (p:=⟨N,0,none⟩) (by exact lxc)).trans xc,HB.out.trans (hb2.mono (by simp at lxc ⊢;omega))⟩
           case measure=>simp[intOf];omega
         | false=>
          have HBAD:=Lib.hid (checkI_bad hk (show okB G (4*t+f)=false by simp[okB,hno',hmt]))
          have hbk:G.back (4*t+f)<4*G.n:=by unfold Gl.back;rw[km];omega
          have hcj:=hgc (G.back (4*t+f)) hbk
          have ea:off+5*G.back (4*t+f)=off+(G.tet (4*t+f)).toNat*20+(G.pm (4*t+f) f).toNat*5:=by unfold Gl.back;rw[km];omega
          rw[ea] at hcj
          obtain⟨J,hJ⟩:∃J,J=G.back (4*t+f):=⟨_,rfl⟩
          rw[←hJ] at hcj
          have g0:=hbN _ _ hcj.1
          have g1:=hbN _ _ (hcj.2 0 (by omega))
          have g2:=hbN _ _ (hcj.2 1 (by omega))
          have g3:=hbN _ _ (hcj.2 2 (by omega))
          have g4:=hbN _ _ (hcj.2 3 (by omega))
          have hme:(G.tet J==(t:Int) && (G.pm J 0==invF (G.pm (4*t+f)) 0 && (G.pm J 1==invF (G.pm (4*t+f)) 1 && (G.pm J 2==invF (G.pm (4*t+f)) 2 && G.pm J 3==invF (G.pm (4*t+f)) 3))))=false:=by
           have h:=hmt
           rw[matchB,←hJ,kd] at h
           have hpp:G.p (4*t+f)=G.pm (4*t+f):=rfl
           rw[hpp] at h
           rw[←h];simp[all4,Bool.and_assoc]
          have hsf2:(G.tet (4*t+f)==(t:Int) && G.pm (4*t+f) f==(f:Int))=false:=by rw[selfB,km,kd] at hsf;exact hsf
          have hy0:=hin.1
          have hy1:G.pm (4*t+f) f<4:=by omega
          have cV:=fun W=>zf0 (G.pm (4*t+f)) W
          rw[hvr] at cV
          have cI:=fun W=>inverseR_walk (G.pm (4*t+f)) W hvr
          unfold P4 at cV cI
          have HV:=Hd2 cV cI
          have HM:=Lib.hid hme
          obtain⟨D,hD⟩:∃D,D=wr.heap.size:=⟨_,rfl⟩
          have hND:N≤D:=by have:=HK.out.2.size;have:=HN.out;omega
          clear hga hgc hbN hkk hno hno' hsf hmt hvr hin hcj ea hJ hme cV cI hb hbk
          have hE:((G.tet (4*t+f)==(t:Int))=true∧(G.pm (4*t+f) f==(f:Int))=false)∨(G.tet (4*t+f)==(t:Int))=false:=by
           cases h:(G.tet (4*t+f)==(t:Int)) with
           | true=>rw[h,Bool.true_and] at hsf2;exact .inl ⟨rfl,hsf2⟩
           | false=>exact .inr rfl
          clear hsf2
          have hX:∀(W W':World),W=wr.alloc (.cells #[.int .i64 (G.tet (4*t+f)),.int .i64 (G.pm (4*t+f) 0),.int .i64 (G.pm (4*t+f) 1),.int .i64 (G.pm (4*t+f) 2),.int .i64 (G.pm (4*t+f) 3)] 87)→Below W.heap.size W W'→W'.cell? ⟨wr.heap.size,0,none⟩=some (.int .i64 (G.tet (4*t+f)))∧W'.cell? ⟨wr.heap.size,1,none⟩=some (.int .i64 (G.pm (4*t+f) 0))∧W'.cell? ⟨wr.heap.size,2,none⟩=some (.int .i64 (G.pm (4*t+f) 1))∧W'.cell? ⟨wr.heap.size,3,none⟩=some (.int .i64 (G.pm (4*t+f) 2))∧W'.cell? ⟨wr.heap.size,4,none⟩=some (.int .i64 (G.pm (4*t+f) 3))∧W'.cell? ⟨wr.heap.size,1+f,none⟩=some (.int .i64 (G.pm (4*t+f) f))∧W'.cell? ⟨N,0,none⟩=some (.slice (some ⟨b,off,none⟩) G.n cap)∧(W'.cell? ⟨b,off+(G.tet (4*t+f)).toNat*20+(G.pm (4*t+f) f).toNat*5,none⟩=some (.int .i64 (G.tet J))∧W'.cell? ⟨b,off+(G.tet (4*t+f)).toNat*20+(G.pm (4*t+f) f).toNat*5+1,none⟩=some (.int .i64 (G.pm J 0))∧W'.cell? ⟨b,off+(G.tet (4*t+f)).toNat*20+(G.pm (4*t+f) f).toNat*5+2,none⟩=some (.int .i64 (G.pm J 1))∧W'.cell? ⟨b,off+(G.tet (4*t+f)).toNat*20+(G.pm (4*t+f) f).toNat*5+3,none⟩=some (.int .i64 (G.pm J 2))∧W'.cell? ⟨b,off+(G.tet (4*t+f)).toNat*20+(G.pm (4*t+f) f).toNat*5+4,none⟩=some (.int .i64 (G.pm J 3)))∧Below N w W':=by
           intro W W' hWe hb1
           obtain⟨hold,hnew,hB⟩:=copied (pm:=G.pm (4*t+f)) (by have:=HK.out.2.size;have:=HN.out;omega) HK.out.2 hWe hb1
           exact⟨hnew 0 _ rfl,hnew 1 _ rfl,hnew 2 _ rfl,hnew 3 _ rfl,hnew 4 _ rfl,hnew _ _ (zf8 _ _ f hf4),hold _ _ HK.out.1,⟨hold _ _ g0,hold _ _ g1,hold _ _ g2,hold _ _ g3,hold _ _ g4⟩,hB⟩
          have HX:=Lib.hid hX
          clear hX g0 g1 g2 g3 g4
          rcases hE with ⟨e1,e2⟩ | e1
          ·go_wp2_with (go_at_call 63;(with_reducible refine (HV.out.1 _).mono ?_);rintro e w1 ⟨rfl,hb1⟩;obtain⟨x0,x1,x2,x3,x4,xf,xc,xg,xb⟩:=HX.out _ _ rfl hb1;have H1:=Hd3 xg xb hb1;clear hb1 xg xb)
           obtain⟨⟨g0,g1,g2,g3,g4⟩,xb,hb1⟩:=H1.out
           replace x0:w1.drew.cell? ⟨wr.heap.size,0,none⟩=some (.int .i64 (G.tet (4*t+f))):=x0
           replace x1:w1.drew.cell? ⟨wr.heap.size,1,none⟩=some (.int .i64 (G.pm (4*t+f) 0)):=x1
           replace x2:w1.drew.cell? ⟨wr.heap.size,2,none⟩=some (.int .i64 (G.pm (4*t+f) 1)):=x2
           replace x3:w1.drew.cell? ⟨wr.heap.size,3,none⟩=some (.int .i64 (G.pm (4*t+f) 2)):=x3
           replace x4:w1.drew.cell? ⟨wr.heap.size,4,none⟩=some (.int .i64 (G.pm (4*t+f) 3)):=x4
           replace xf:w1.drew.cell? ⟨wr.heap.size,1+f,none⟩=some (.int .i64 (G.pm (4*t+f) f)):=xf
           replace xc:w1.drew.cell? ⟨N,0,none⟩=some (.slice (some ⟨b,off,none⟩) G.n cap):=xc
           replace g0:w1.drew.cell? ⟨b,off+(G.tet (4*t+f)).toNat*20+(G.pm (4*t+f) f).toNat*5,none⟩=some (.int .i64 (G.tet J)):=g0
           replace g1:w1.drew.cell? ⟨b,off+(G.tet (4*t+f)).toNat*20+(G.pm (4*t+f) f).toNat*5+1,none⟩=some (.int .i64 (G.pm J 0)):=g1
           replace g2:w1.drew.cell? ⟨b,off+(G.tet (4*t+f)).toNat*20+(G.pm (4*t+f) f).toNat*5+2,none⟩=some (.int .i64 (G.pm J 1)):=g2
           replace g3:w1.drew.cell? ⟨b,off+(G.tet (4*t+f)).toNat*20+(G.pm (4*t+f) f).toNat*5+3,none⟩=some (.int .i64 (G.pm J 2)):=g3
           replace g4:w1.drew.cell? ⟨b,off+(G.tet (4*t+f)).toNat*20+(G.pm (4*t+f) f).toNat*5+4,none⟩=some (.int .i64 (G.pm J 3)):=g4
           have lx0:=za0 x0
           have lx1:=za0 x1
           have lx2:=za0 x2
           have lx3:=za0 x3
           have lx4:=za0 x4
           have lxf:=za0 xf
           have lxc:=za0 xc
           have lg0:=za0 g0
           have lg1:=za0 g1
           have lg2:=za0 g2
           have lg3:=za0 g3
           have lg4:=za0 g4
           simp only at lx0 lx1 lx2 lx3 lx4 lxf lxc lg0 lg1 lg2 lg3 lg4
           have HB:=Lib.hid (za5 xb)
           clear xb hb1
           have he2:=fun w=>zc5 (G.tet J) (t:Int) (G.pm J 0) (G.pm J 1) (G.pm J 2) (G.pm J 3) (invF (G.pm (4*t+f)) 0) (invF (G.pm (4*t+f)) 1) (invF (G.pm (4*t+f)) 2) (invF (G.pm (4*t+f)) 3) w
           simp only[HM.out] at he2
           go_region_held3 (fun w'=>w'.cell? ⟨wr.heap.size,0,none⟩=some (.int .i64 (G.tet (4*t+f)))∧w'.cell? ⟨wr.heap.size,1,none⟩=some (.int .i64 (G.pm (4*t+f) 0))∧w'.cell? ⟨wr.heap.size,2,none⟩=some (.int .i64 (G.pm (4*t+f) 1))∧w'.cell? ⟨wr.heap.size,3,none⟩=some (.int .i64 (G.pm (4*t+f) 2))∧w'.cell? ⟨wr.heap.size,4,none⟩=some (.int .i64 (G.pm (4*t+f) 3))∧w'.cell? ⟨wr.heap.size,1+f,none⟩=some (.int .i64 (G.pm (4*t+f) f))∧w'.cell? ⟨N,0,none⟩=some (.slice (some ⟨b,off,none⟩) G.n cap)∧w'.cell? ⟨b,off+(G.tet (4*t+f)).toNat*20+(G.pm (4*t+f) f).toNat*5,none⟩=some (.int .i64 (G.tet J))∧w'.cell? ⟨b,off+(G.tet (4*t+f)).toNat*20+(G.pm (4*t+f) f).toNat*5+1,none⟩=some (.int .i64 (G.pm J 0))∧w'.cell? ⟨b,off+(G.tet (4*t+f)).toNat*20+(G.pm (4*t+f) f).toNat*5+2,none⟩=some (.int .i64 (G.pm J 1))∧w'.cell? ⟨b,off+(G.tet (4*t+f)).toNat*20+(G.pm (4*t+f) f).toNat*5+3,none⟩=some (.int .i64 (G.pm J 2))∧w'.cell? ⟨b,off+(G.tet (4*t+f)).toNat*20+(G.pm (4*t+f) f).toNat*5+4,none⟩=some (.int .i64 (G.pm J 3)))
            (first
             | exact⟨x0,x1,x2,x3,x4,xf,xc,g0,g1,g2,g3,g4⟩
             | exact⟨(hb2.cell (p:=⟨wr.heap.size,_,none⟩) (by exact lx0)).trans x0,(hb2.cell (p:=⟨wr.heap.size,_,none⟩) (by exact lx1)).trans x1,(hb2.cell (p:=⟨wr.heap.size,_,none⟩) (by exact lx2)).trans x2,(hb2.cell (p:=⟨wr.heap.size,_,none⟩) (by exact lx3)).trans x3,(hb2.cell (p:=⟨wr.heap.size,_,none⟩) (by exact lx4)).trans x4,(hb2.cell (p:=⟨wr.heap.size,_,none⟩) (by exact lxf)).trans xf,(hb2.cell (p:=⟨N,_,none⟩) (by exact lxc)).trans xc,(hb2.cell (p:=⟨b,_,none⟩) (by exact lg0)).trans g0,(hb2.cell (p:=⟨b,_,none⟩) (by exact lg1)).trans g1,(hb2.cell (p:=⟨b,_,none⟩) (by exact lg2)).trans g2,(hb2.cell (p:=⟨b,_,none⟩) (by exact lg3)).trans g3,(hb2.cell (p:=⟨b,_,none⟩) (by exact lg4)).trans g4⟩)
            (first|(go_at_call 64;(with_reducible refine (HV.out.2 _).mono ?_);rintro e w2 ⟨rfl,hb2⟩))
           go_wp2
           go_ret
           exact⟨by rw[HBAD.out];rfl,HN.out▸HB.out.trans (hb2.mono (by simp at lxc ⊢;omega))⟩
          ·go_wp2_with (go_at_call 63;(with_reducible refine (HV.out.1 _).mono ?_);rintro e w1 ⟨rfl,hb1⟩;obtain⟨x0,x1,x2,x3,x4,xf,xc,xg,xb⟩:=HX.out _ _ rfl hb1;have H1:=Hd3 xg xb hb1;clear hb1 xg xb)
           obtain⟨⟨g0,g1,g2,g3,g4⟩,xb,hb1⟩:=H1.out
           replace x0:w1.drew.cell? ⟨wr.heap.size,0,none⟩=some (.int .i64 (G.tet (4*t+f))):=x0
           replace x1:w1.drew.cell? ⟨wr.heap.size,1,none⟩=some (.int .i64 (G.pm (4*t+f) 0)):=x1
           replace x2:w1.drew.cell? ⟨wr.heap.size,2,none⟩=some (.int .i64 (G.pm (4*t+f) 1)):=x2
           replace x3:w1.drew.cell? ⟨wr.heap.size,3,none⟩=some (.int .i64 (G.pm (4*t+f) 2)):=x3
           replace x4:w1.drew.cell? ⟨wr.heap.size,4,none⟩=some (.int .i64 (G.pm (4*t+f) 3)):=x4
           replace xf:w1.drew.cell? ⟨wr.heap.size,1+f,none⟩=some (.int .i64 (G.pm (4*t+f) f)):=xf
           replace xc:w1.drew.cell? ⟨N,0,none⟩=some (.slice (some ⟨b,off,none⟩) G.n cap):=xc
           replace g0:w1.drew.cell? ⟨b,off+(G.tet (4*t+f)).toNat*20+(G.pm (4*t+f) f).toNat*5,none⟩=some (.int .i64 (G.tet J)):=g0
           replace g1:w1.drew.cell? ⟨b,off+(G.tet (4*t+f)).toNat*20+(G.pm (4*t+f) f).toNat*5+1,none⟩=some (.int .i64 (G.pm J 0)):=g1
           replace g2:w1.drew.cell? ⟨b,off+(G.tet (4*t+f)).toNat*20+(G.pm (4*t+f) f).toNat*5+2,none⟩=some (.int .i64 (G.pm J 1)):=g2
           replace g3:w1.drew.cell? ⟨b,off+(G.tet (4*t+f)).toNat*20+(G.pm (4*t+f) f).toNat*5+3,none⟩=some (.int .i64 (G.pm J 2)):=g3
           replace g4:w1.drew.cell? ⟨b,off+(G.tet (4*t+f)).toNat*20+(G.pm (4*t+f) f).toNat*5+4,none⟩=some (.int .i64 (G.pm J 3)):=g4
           have lx0:=za0 x0
           have lx1:=za0 x1
           have lx2:=za0 x2
           have lx3:=za0 x3
           have lx4:=za0 x4
           have lxf:=za0 xf
           have lxc:=za0 xc
           have lg0:=za0 g0
           have lg1:=za0 g1
           have lg2:=za0 g2
           have lg3:=za0 g3
           have lg4:=za0 g4
           simp only at lx0 lx1 lx2 lx3 lx4 lxf lxc lg0 lg1 lg2 lg3 lg4
           have HB:=Lib.hid (za5 xb)
           clear xb hb1
           have he2:=fun w=>zc5 (G.tet J) (t:Int) (G.pm J 0) (G.pm J 1) (G.pm J 2) (G.pm J 3) (invF (G.pm (4*t+f)) 0) (invF (G.pm (4*t+f)) 1) (invF (G.pm (4*t+f)) 2) (invF (G.pm (4*t+f)) 3) w
           simp only[HM.out] at he2
           go_region_held3 (fun w'=>w'.cell? ⟨wr.heap.size,0,none⟩=some (.int .i64 (G.tet (4*t+f)))∧w'.cell? ⟨wr.heap.size,1,none⟩=some (.int .i64 (G.pm (4*t+f) 0))∧w'.cell? ⟨wr.heap.size,2,none⟩=some (.int .i64 (G.pm (4*t+f) 1))∧w'.cell? ⟨wr.heap.size,3,none⟩=some (.int .i64 (G.pm (4*t+f) 2))∧w'.cell? ⟨wr.heap.size,4,none⟩=some (.int .i64 (G.pm (4*t+f) 3))∧w'.cell? ⟨wr.heap.size,1+f,none⟩=some (.int .i64 (G.pm (4*t+f) f))∧w'.cell? ⟨N,0,none⟩=some (.slice (some ⟨b,off,none⟩) G.n cap)∧w'.cell? ⟨b,off+(G.tet (4*t+f)).toNat*20+(G.pm (4*t+f) f).toNat*5,none⟩=some (.int .i64 (G.tet J))∧w'.cell? ⟨b,off+(G.tet (4*t+f)).toNat*20+(G.pm (4*t+f) f).toNat*5+1,none⟩=some (.int .i64 (G.pm J 0))∧w'.cell? ⟨b,off+(G.tet (4*t+f)).toNat*20+(G.pm (4*t+f) f).toNat*5+2,none⟩=some (.int .i64 (G.pm J 1))∧w'.cell? ⟨b,off+(G.tet (4*t+f)).toNat*20+(G.pm (4*t+f) f).toNat*5+3,none⟩=some (.int .i64 (G.pm J 2))∧w'.cell? ⟨b,off+(G.tet (4*t+f)).toNat*20+(G.pm (4*t+f) f).toNat*5+4,none⟩=some (.int .i64 (G.pm J 3)))
            (first
             | exact⟨x0,x1,x2,x3,x4,xf,xc,g0,g1,g2,g3,g4⟩
             | exact⟨(hb2.cell (p:=⟨wr.heap.size,_,none⟩) (by exact lx0)).trans x0,(hb2.cell (p:=⟨wr.heap.size,_,none⟩) (by exact lx1)).trans x1,(hb2.cell (p:=⟨wr.heap.size,_,none⟩) (by exact lx2)).trans x2,(hb2.cell (p:=⟨wr.heap.size,_,none⟩) (by exact lx3)).trans x3,(hb2.cell (p:=⟨wr.heap.size,_,none⟩) (by exact lx4)).trans x4,(hb2.cell (p:=⟨wr.heap.size,_,none⟩) (by exact lxf)).trans xf,(hb2.cell (p:=⟨N,_,none⟩) (by exact lxc)).trans xc,(hb2.cell (p:=⟨b,_,none⟩) (by exact lg0)).trans g0,(hb2.cell (p:=⟨b,_,none⟩) (by exact lg1)).trans g1,(hb2.cell (p:=⟨b,_,none⟩) (by exact lg2)).trans g2,(hb2.cell (p:=⟨b,_,none⟩) (by exact lg3)).trans g3,(hb2.cell (p:=⟨b,_,none⟩) (by exact lg4)).trans g4⟩)
            (first|(go_at_call 64;(with_reducible refine (HV.out.2 _).mono ?_);rintro e w2 ⟨rfl,hb2⟩))
           go_wp2
           go_ret
           exact⟨by rw[HBAD.out];rfl,HN.out▸HB.out.trans (hb2.mono (by simp at lxc ⊢;omega))⟩
      ·have d1:decide ((G.n:Int)≤G.tet (4*t+f))=true:=by simpa using h1
       have HBAD:=Lib.hid (checkI_bad hk (show okB G (4*t+f)=false by simp[okB,hno',inTetB];omega))
       clear hga hgc hbN hkk hno hno' h0 hb
       go_wp2
       go_ret
       exact⟨by rw[HBAD.out];rfl,HN.out▸HK.out.2.alloc hNwr _⟩
    ·obtain rfl:f=4:=by omega
     clear hc hb
     go_wp2
     go_roundw
     case rel=>exact⟨t+1,by omega,rfl,fun k hk=>HAL.out k (by omega),HK.out⟩
     case measure=>simp[intOf];omega
  ·obtain rfl:t=G.n:=by omega
   clear hc hb
   go_wp2
   have HALL:=Lib.hid (checkI_all hn HAL.out)
   go_ret
   exact⟨by rw[HALL.out];rfl,HN.out▸HK.out.2⟩
end
section
open Go.RowKit Go.Shelf
theorem GlAt.setCell {B:Nat}{W:World}{g n cap:Nat}{G:Gl}{x o:Nat}{u:Value}(h:GlAt B W (.slice (some ⟨g,0,none⟩) n cap) G)(hx:x≠g):GlAt B (W.setCell ⟨x,o,none⟩ u) (.slice (some ⟨g,0,none⟩) n cap) G:=by
 obtain⟨a,b,off,cp,e,ha,hc⟩:=h
 refine⟨a,b,off,cp,e,ha,fun k hk=>?_⟩
 have e1:=(ha (by omega)).1
 simp only[Value.slice.injEq] at e
 have e2:b=g:=by
  have:=e.1.trans e1
  simp at this;omega
 subst e2
 obtain⟨h1,h2⟩:=hc k hk
 have oth:∀y,(W.setCell ⟨x,o,none⟩ u).cell? ⟨b,y,none⟩=W.cell? ⟨b,y,none⟩:=fun y=>World.cell?_setCell_other (a:=⟨x,o,none⟩) (b:=⟨b,y,none⟩) _ _ (by simp<;>omega)
 exact⟨(oth _).trans h1,fun i hi=>(oth _).trans (h2 i hi)⟩
structure PRw (W wr:World)(D c:Nat):Prop where
 row:zb9 wr D 0 (GP c) 0
 fz:∀j,wr.frozen? ⟨D,j,none⟩=false
 bel:Below D W wr
theorem PRw.cellAt {W wr:World}{D c j:Nat}(h:PRw W wr D c)(hj:j<20):∃v,wr.cell? ⟨D,j,none⟩=some v:=by
 have h1:=h.row j hj
 rw[rowA_get _ _ _ hj,Nat.zero_add] at h1
 exact⟨_,h1⟩
theorem PRw.tet {W wr:World}{D c F:Nat}(hF:F<4)(h:PRw W wr D c):PRw W (wr.setCell ⟨D,F*5,none⟩ (.int .i64 0)) D c:=
 ⟨GP_tet hF h.row,fun j=>by rw[World.frozen?_setCell];exact h.fz j,h.bel.setCell (Nat.le_refl _) _⟩
theorem PRw.pm {W wr:World}{D F i:Nat}(hF:F<4)(hi:i<4)(h:PRw W wr D (4*F+i)):PRw W (wr.setCell ⟨D,F*5+1+i,none⟩ (.int .i64 (pmS F i:Nat))) D (4*F+i+1):=
 ⟨GP_pm hF hi h.row,fun j=>by rw[World.frozen?_setCell];exact h.fz j,h.bel.setCell (Nat.le_refl _) _⟩
structure WS (B:Nat)(W:World)(g:Nat):Prop where
 one:W.cell? ⟨g,0,none⟩=some (.string b1)
 tet:∀F,F<4→W.cell? ⟨g,1+2*F,none⟩=some (.string b0)
 pm:∀F,F<4→W.cell? ⟨g,1+2*F+1,none⟩=some (.string (wrd F))
 lt:g<B
theorem WS.of {base:Nat}{W:World}{u:Value}(h:W.ownsRow base 9 1 u (wordsP txt).length (strs (wordsP txt))):∃g cp,u=.slice (some ⟨g,0,none⟩) 9 cp∧WS W.heap.size W g:=by
 have hl:(wordsP txt).length=9:=by rw[words_txt];rfl
 rw[hl] at h
 obtain⟨g,cp,rfl,_⟩:=h.form (by omega)
 have c:∀j x,(strs (wordsP txt))[j]?=some x→W.cell? ⟨g,j,none⟩=some x:=fun j x hx=>by
  have:=h.cells (g:=g) rfl j x hx
  rwa [Addr.add_mid,Nat.zero_add] at this
 exact⟨g,cp,rfl,c 0 _ txt_one,fun F hF=>c _ _ (txt_tet F hF),fun F hF=>c _ _ (txt_pm F hF),za0 (c 0 _ txt_one)⟩
theorem WS.below {B:Nat}{W W':World}{g:Nat}(h:WS B W g)(hb:Below B W W'):WS B W' g:=
 ⟨(hb.cell (p:=⟨g,0,none⟩) h.lt).trans h.one,fun F hF=>(hb.cell (p:=⟨g,_,none⟩) h.lt).trans (h.tet F hF),fun F hF=>(hb.cell (p:=⟨g,_,none⟩) h.lt).trans (h.pm F hF),h.lt⟩
theorem Parse_walk (w:World) :
  Calls Try.prog 40 #[.string txt] w fun e w'=>∃u,e=.returned (.tuple #[.agg #[u],.int .i64 0])∧GlAt w'.heap.size w' u GS∧Below w.heap.size w w':=by
 have hw80:∀W,Calls Try.prog 80 #[.string txt] W fun e w'=>∃g cp,e=.returned (.slice (some ⟨g,0,none⟩) 9 cp)∧WS w'.heap.size w' g∧Below W.heap.size W w':=fun W=>(Words_walk txt (by decide) W).mono fun e w' ⟨u,he,ho,hb⟩=>by
  obtain⟨g,cp,rfl,hg⟩:=WS.of ho
  exact⟨g,cp,he,hg,hb⟩
 have hn1:=fun W=>number_walk b1 1 rfl (by omega) b1_byte W
 have hn0:=fun W=>number_walk b0 0 rfl (by omega) b0_byte W
 have HC:=Hd3 hw80 hn1 hn0;clear hw80 hn1 hn0
 have ht:txt.size=29:=rfl
 obtain⟨tx,htx⟩:∃tx,tx=txt:=⟨_,rfl⟩
 rw[←htx] at HC ht ⊢
 clear htx
 generalize hN:w.heap.size=N at *
 go_enter Try.func40,Try.ntmps40
 go_wp2_with (first
  |(go_at_call 80;(with_reducible refine (HC.out.1 _).mono ?_);rintro e W1 ⟨g,cp,rfl,hws,hb1⟩;have x1:=hws.one;have HW:=Hd2 hws hb1;clear hws hb1)
  |(go_at_call 81;(with_reducible refine (HC.out.2.1 _).mono ?_);rintro e W2 ⟨rfl,rfl⟩))
 obtain⟨D,hD⟩:∃D,D=W2.heap.size:=⟨_,rfl⟩
 rw[←hD]
 refine zb3 fun W3 hW=>?_
 have hND:N<D:=by have:=HW.out.2.size;simp only[World.size_alloc] at this;omega
 have h3:WS D W3 g∧(W3.cell? ⟨D,0,none⟩=some (.slice none 0 0)∧W3.frozen? ⟨D,0,none⟩=false)∧(W3.cell? ⟨N,0,none⟩=some (.slice none 0 0)∧W3.frozen? ⟨N,0,none⟩=false)∧Below N w W3∧W3.heap.size=D+1:=by
  have hal:=World.grownBy_alloc W2 (.cells #[.slice none 0 0] 24) none
  have cN:W2.cell? ⟨N,0,none⟩=some (.slice none 0 0):=(HW.out.2.cell (p:=⟨N,0,none⟩) (by simp;omega)).trans (World.cell?_alloc_at _ _ _ _ hN.symm)
  have fN:W2.frozen? ⟨N,0,none⟩=false:=((za6 HW.out.2 (Nat.le_refl _) none).frozen_far ⟨N,0,none⟩ (by simp;omega) (by simp)).trans (World.frozen?_alloc_at _ _ _ _ hN.symm)
  rw[hW]
  refine⟨?_,⟨World.cell?_alloc_at _ _ _ _ hD,World.frozen?_alloc_at _ _ _ _ hD⟩,⟨hal.cell cN (by simp),(hal.frozen_far ⟨N,0,none⟩ (za0 cN) (by simp)).trans fN⟩,?_,by simp;omega⟩
  ·have:=HW.out.1.below ((Below.refl _ W2).alloc (Nat.le_refl _) (.cells #[.slice none 0 0] 24))
   rw[hD];exact this
  ·have hb:Below N w (w.alloc (.cells #[.slice none 0 0] 24)):=by rw[←hN];exact (Below.refl _ _).alloc (Nat.le_refl _) _
   exact (hb.trans (HW.out.2.mono (by simp;omega))).alloc (by omega) _
 have H3:=Lib.hid h3
 clear h3 hW x1 HW hD
 go_loopw [8,9] (fun at_ t wr=>(at_=.int .i64 1∧t=.int .i64 0∧wr=W3)∨(at_=.int .i64 9∧t=.int .i64 1∧∃ga gc,N<ga∧wr.cell? ⟨D,0,none⟩=some (.slice (some ⟨ga,0,none⟩) 1 gc)∧GlAt wr.heap.size wr (.slice (some ⟨ga,0,none⟩) 1 gc) GS∧(wr.cell? ⟨N,0,none⟩=some (.slice none 0 0)∧wr.frozen? ⟨N,0,none⟩=false)∧Below N w wr)) (fun _ t _=>1-(intOf t).toNat)
 case atStart=>exact .inl ⟨rfl,rfl,rfl⟩
 case round=>
  rcases hrel with ⟨rfl,rfl,rfl⟩ | ⟨rfl,rfl,ga,gc,hga,cD,hgl,cN,hb⟩
  ·go_wp2
   obtain⟨E,hE⟩:∃E,E=wr.heap.size:=⟨_,rfl⟩
   rw[←hE]
   refine zb3 fun W4 hW=>?_
   have h4:PRw W4 W4 E 0∧WS E W4 g∧(W4.cell? ⟨D,0,none⟩=some (.slice none 0 0)∧W4.frozen? ⟨D,0,none⟩=false)∧(W4.cell? ⟨N,0,none⟩=some (.slice none 0 0)∧W4.frozen? ⟨N,0,none⟩=false)∧Below N w W4∧W4.heap.size=E+1∧E=D+1:=by
    obtain⟨q1,⟨q2,q3⟩,⟨q4,q5⟩,q6,q7⟩:=H3.out
    rw[←GP_zero] at hW
    have hal:=World.grownBy_alloc wr (.cells (rowA (GP 0) 0) 88) none
    rw[←hW] at hal
    have hbe:Below D wr W4:=by rw[hW];exact (Below.refl _ _).alloc (by omega) _
    have q1':=q1.below hbe
    refine⟨⟨fun j hj=>?_,fun j=>?_,Below.refl _ _⟩,⟨q1'.one,q1'.tet,q1'.pm,by have:=q1.lt;omega⟩,⟨hal.cell q2 (by simp),(hal.frozen_far ⟨D,0,none⟩ (za0 q2) (by simp)).trans q3⟩,⟨hal.cell q4 (by simp),(hal.frozen_far ⟨N,0,none⟩ (za0 q4) (by simp)).trans q5⟩,q6.trans (hbe.mono (by omega)),by rw[hW];simp;omega,by omega⟩
    ·rw[hW,World.cell?_alloc_at _ _ _ _ hE,Nat.zero_add]
    ·rw[hW];exact World.frozen?_alloc_at _ _ _ _ hE
   have H4:=Lib.hid h4
   have h4b:=H4.out.1
   clear h4 hW H3 hE
   go_loopw [8,11] (fun at_ f wr=>∃F:Nat,F≤4∧at_=.int .i64 (1+2*F:Nat)∧f=.int .i64 F∧PRw W4 wr E (4*F)) (fun _ f _=>4-(intOf f).toNat)
   case atStart=>exact⟨0,by omega,rfl,rfl,h4b⟩
   case round=>
    clear h4b
    obtain⟨F,hF,rfl,rfl,hP⟩:=hrel
    have HP:=Lib.hid hP
    rcases Nat.lt_or_ge F 4 with hF4 | hF4
    ·have hws:=H4.out.2.1.below hP.bel
     have x0:=hws.tet F hF4
     have x1:=hws.pm F hF4
     obtain⟨v0,hv0⟩:=hP.cellAt (j:=F*5) (by omega)
     have fv0:=hP.fz (F*5)
     obtain⟨A,hA⟩:∃A,A=1+2*F:=⟨_,rfl⟩
     rw[←hA] at x0 x1 ⊢
     obtain⟨c,hc⟩:∃c,c=wrd F:=⟨_,rfl⟩
     have hcs:c.size=4:=by rw[hc];exact wrd_size F
     rw[←hc] at x1
     have q1:IntKind.i64.wrap ((A:Int)+1)=((A+1:Nat):Int):=by rw[IntWalk.i64_in _ (by omega)];omega
     have q2:decide ((9:Int)≤(A:Int))=false:=by simp;omega
     have q3:decide ((9:Int)≤((A+1:Nat):Int))=false:=by simp;omega
     have F0:0≤(F:Int):=by omega
     have A0:0≤(A:Int):=by omega
     have A9:(A:Int)<9:=by omega
     have B0:0≤((A+1:Nat):Int):=by omega
     have B9:((A+1:Nat):Int)<9:=by omega
     have Fi:(F:Int)<4:=by omega
     have HF:=Hd2 hA hc
     have e45:(b0.toList==[45])=false:=by kernel_rfl
     clear hP hws hA hc hF
     go_wp2_with (go_at_call 81;(with_reducible refine (HC.out.2.2 _).mono ?_);rintro e W2 ⟨rfl,rfl⟩)
     have h5:=HP.out.tet hF4
     go_loopw [14] (fun i wr=>∃I:Nat,I≤4∧i=.int .i64 I∧PRw W4 wr E (4*F+I)) (fun i _=>4-(intOf i).toNat)
     case atStart=>exact⟨0,by omega,rfl,h5⟩
     case round=>
      clear h5 HP
      obtain⟨I,hI,rfl,hP⟩:=hrel
      have HP:=Lib.hid hP
      rcases Nat.lt_or_ge I 4 with hI4 | hI4
      ·have hws:=H4.out.2.1.below hP.bel
       have x1:=hws.pm F hF4
       rw[←HF.out.1,←HF.out.2] at x1
       obtain⟨v1,hv1⟩:=hP.cellAt (j:=F*5+1+I) (by omega)
       have fv1:=hP.fz (F*5+1+I)
       have hr:=fun w=>run_byte c (i:=I) (by omega) w
       have hbb:=wrd_byte F I hI4
       rw[←HF.out.2] at hbb
       obtain⟨p,hp⟩:∃p,p=pmS F I:=⟨_,rfl⟩
       have hp4:p<4:=by rw[hp];unfold pmS;split<;>omega
       rw[←hp] at hbb
       rw[hbb] at hr
       have Hp:=Lib.hid hp
       have I0:0≤(I:Int):=by omega
       have Ii:(I:Int)<4:=by omega
       have d1:decide (48+(p:Int)<48)=false:=by simp;omega
       have d2:decide (57<48+(p:Int))=false:=by simp;omega
       have d3:IntKind.u8.wrap (48+(p:Int)-48)=(p:Int):=by
        have:p=0∨p=1∨p=2∨p=3:=by omega
        rcases this with e | e | e | e<;>rw[e]<;>rfl
       have d4:IntKind.i64.wrap (p:Int)=(p:Int):=by rw[IntWalk.i64_in _ (by omega)]
       clear hP hws hbb hp hI
       go_wp2
       have h6:=HP.out.pm hF4 hI4
       rw[←Hp.out] at h6
       exact⟨⟨I+1,by omega,by simp,h6⟩,by simp[intOf];omega⟩
      ·obtain rfl:I=4:=by omega
       clear hP
       go_wp2
       have h6:=HP.out
       rw[show 4*F+4=4*(F+1) by omega] at h6
       exact⟨⟨F+1,by omega,by rw[HF.out.1];simp;omega,by simp,h6⟩,by simp[intOf];omega⟩
    ·obtain rfl:F=4:=by omega
     clear hF hF4
     have hrow:zb9 wr E 0 GS 0:=hP.row
     have hrg:=zb9.range hrow
     obtain⟨q1,q2,⟨q3,q4⟩,⟨q5,q6⟩,q7,q8,q9⟩:=H4.out
     have hgb:=hP.bel
     have hsz:=hgb.size
     have cD:=(hgb.cell (p:=⟨D,0,none⟩) (by show D<E;omega)).trans q3
     have fD:wr.frozen? ⟨D,0,none⟩=false:=by
      exact (hgb.frozen (p:=⟨D,0,none⟩) (by show D<E;omega)).trans q4
     have newsA:∀(j:Nat) (u:Value),(rowA GS 0).toList[j]?=some u→(wr.alloc (.cells (rowA GS 0) 88)).cell? ((⟨wr.heap.size,0,none⟩:Addr).add j)=some u:=
      World.news_of_block (cs:=rowA GS 0) (MapKept.heap_alloc wr _).1
     have oneA:=fun u (hu:u∈(rowA GS 0).toList)=>(Array.all_eq_true_iff_forall_mem.1 (zf9 GS 0)) u (by simpa using hu)
     obtain⟨i0,hi0,⟨z0,hz0,hzs⟩,hz1,hz2⟩:=info88
     have cDa:=za4 cD (.cells (rowA GS 0) 88)
     have fDa:(wr.alloc (.cells (rowA GS 0) 88)).frozen? ⟨D,0,none⟩=false:=((World.grownBy_alloc wr _ none).frozen_far ⟨D,0,none⟩ (za0 cD) (by simp)).trans fD
     have HA:=Hd4 newsA oneA cDa fDa;clear newsA oneA cDa fDa
     clear q1 q2 q3 q4 q5 q6 q7 q8 hgb hP hrow fD
     go_wp2_with (first|(refine zb8 rfl 88 (.tmp 10) rfl E 0 rfl (rowA GS 0) _ hrg Try.underlying88 rfl (by kernel_rfl) ?_)|(refine Go.Great.wpList_buildSliceTo rfl 22 88 1 _ rfl wr.heap.size rfl (.tmp 122) rfl und22 (rowA GS 0) (built88 _ _) ?_)|(at_builtin;rw[fold88];refine (wpList_append_lies _ rfl (.tmp 120) (.tmp 122) 22 rfl (wr.heap.size+1) 88 i0 z0 20 160 und22 hi0 hz0 hz1 hz2 hzs (by omega) (.slice none 0 0) 0 [] rfl (World.ownsRow_nil _ _ _ _) ⟨wr.heap.size,0,none⟩ 1 1 (rowA GS 0).toList rfl rfl HA.out.1 HA.out.2.1 (by omega) (by unfold maxLen;omega) (by omega) (by simp) (wr.heap.size+1) (by simp) ?_);intro g2 cp2 w1 r1 r2 r3 r4;have x2:=r2.cell HA.out.2.2.1 (by simp[Value.ownBlock]);have x3:=(r2.frozen_far ⟨D,0,none⟩ (za0 HA.out.2.2.1) (by simp[Value.ownBlock])).trans HA.out.2.2.2;have HR:=Hd4 r1 r2 r3 r4;clear r1 r2 r3 r4))
     obtain⟨r1,r2,r3,_⟩:=HR.out
     obtain⟨q1,q2,⟨q3,q4⟩,⟨q5,q6⟩,q7,q8,_⟩:=H4.out
     have hP:=HP.out
     have hg2:g2=wr.heap.size+1:=by simpa [Value.ownBlock] using r3
     have r2':(wr.alloc (.cells (rowA GS 0) 88)).grownBy w1 none:=r2
     have hal:=World.grownBy_alloc wr (.cells (rowA GS 0) 88) none
     have hsc:=za1 w1 D 0 (.slice (some ⟨g2,0,none⟩) 1 cp2)
     have hDr:=za0 cD
     simp only at hDr
     have hkept:=r1.kept hsc (.inr (by simp[Value.ownBlock];omega))
     have cN:=r2'.cell (hal.cell ((hP.bel.cell (p:=⟨N,0,none⟩) (by show N<E;omega)).trans q5) (by simp)) (by simp)
     have hNw:=za0 q5
     simp only at hNw
     have fN:w1.frozen? ⟨N,0,none⟩=false:=(r2'.frozen_far ⟨N,0,none⟩ (by simp;omega) (by simp)).trans ((hal.frozen_far ⟨N,0,none⟩ (by simp;omega) (by simp)).trans ((hP.bel.frozen (p:=⟨N,0,none⟩) (by show N<E;omega)).trans q6))
     have hbel:Below N w w1:=((q7.trans (hP.bel.mono (by omega))).alloc (by omega) _).grown r2' (by simp;omega) (fun k hk=>by cases hk)
     refine⟨.inr ⟨rfl,rfl,g2,cp2,by omega,World.cell?_setCell_same _ _ _ x2,?_,⟨hsc.cell cN (by simp;omega),by rw[World.frozen?_setCell];exact fN⟩,hbel.setCell (by show N≤D;omega) _⟩,by simp[intOf]⟩
     have hgc:gcells GS=(rowA GS 0).toList:=by simp[gcells,GS,GP]
     refine GlAt.of_cells (G:=GS) (own_lt_size hkept rfl) (fun j u hu=>?_)
     rw[hgc] at hu
     have:=hkept.cells (g:=g2) rfl j u (by simpa using hu)
     rwa [Addr.add_mid,Nat.zero_add] at this
  ·have HE:=Hd3 hgl cN hb
   have hDr:=za0 cD
   have hNr:=za0 cN.1
   simp only at hDr hNr
   clear hgl cN hb
   go_wp2_with (go_at_call 24;(with_reducible refine (checkR_walk GS_ok _ _ HE.out.1).mono ?_);rintro e w5 ⟨rfl,hb5⟩;have y1:=(hb5.cell (p:=⟨D,0,none⟩) (by exact hDr)).trans cD;have y2:=(hb5.cell (p:=⟨N,0,none⟩) (by exact hNr)).trans HE.out.2.1.1;have y3:=(hb5.frozen (p:=⟨N,0,none⟩) (by exact hNr)).trans HE.out.2.1.2;have H5:=Lib.hid hb5;clear hb5)
   refine bodyPost_ret (v:=.tuple #[.agg #[.slice (some ⟨ga,0,none⟩) 1 gc],.int .i64 0]) (by simp[results,Try.results40,go_sem, *]) rfl ⟨_,rfl,?_,?_⟩
   case refine_2=>exact (HE.out.2.2.trans (H5.out.mono (by omega))).setCell (by show N≤N;omega) _
   rw[World.size_setCell]
   exact ((HE.out.1.below H5.out).mono H5.out.size).setCell (by omega)
end
end Go.Proofs.Ytlckpgahijlmoaa
