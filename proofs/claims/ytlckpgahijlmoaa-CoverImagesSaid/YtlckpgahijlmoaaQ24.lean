/- cover's around and need. -/
import Derived.Test.YtlckpgahijlmoaaQ15
import Derived.Test.YtlckpgahijlmoaaQ22
set_option maxRecDepth 100000
set_option maxHeartbeats 8000000
namespace Go.Proofs.Ytlckpgahijlmoaa
section
open Go.RowKit Go.Shelf Go.Maps
attribute [local go_sem] Oper.semAt_some
def shA (G:Gl)(f g:Nat→Nat→Int)(xs:List RS)(i:Nat):Nat→Nat
 | 0=>i
 | k+1=>match xs[k]? with
  | some x=>(crF G f g x.1 (rp x 2) (shA G f g xs i k)).toNat
  | none=>shA G f g xs i k
def encI (j:Nat):Array Value:=#[.int .i64 (j:Int)]
def InSh (n sh:Nat)(f:Nat→Nat→Int):Prop:=∀k,k<n→∀i,i<sh→0≤f k i∧f k i<sh
theorem crF_lt {G:Gl}(hok:za9 G=true){f g:Nat→Nat→Int}{sh:Nat}(hf:InSh (nF G) sh f)(hg:InSh (nF G) sh g){t fc i:Nat}(ht:t<G.n)(hc:fc<4)(hi:i<sh):crF G f g t fc i=((crF G f g t fc i).toNat:Nat)∧(crF G f g t fc i).toNat<sh:=by
 have hk:=fN_lt hok (show 4*t+fc<4*G.n by omega)
 have h1:=hf _ hk i hi
 have h2:=hg _ hk i hi
 unfold crF;split<;>omega
theorem shA_lt {G:Gl}(hok:za9 G=true){f g:Nat→Nat→Int}{sh:Nat}(hf:InSh (nF G) sh f)(hg:InSh (nF G) sh g){xs:List RS}(hx:∀x∈xs,Rok G.n x){i:Nat}(hi:i<sh):∀k,shA G f g xs i k<sh:=by
 intro k
 induction k with
 | zero=>exact hi
 | succ k ih=>
  unfold shA
  split
  ·next x e=>
   have hr:=hx x (List.mem_of_getElem? e)
   exact (crF_lt hok hf hg hr.t (rp_lt hr 2) ih).2
  ·exact ih
theorem rcells_get {xs:List RS}{k:Nat}{x:RS}(h:xs[k]?=some x):∀j,j<5→(zg6 xs)[5*k+j]?=(zb6 x).toList[j]?:=by
 induction xs generalizing k with
 | nil=>simp at h
 | cons a l ih=>
  intro j hj
  cases k with
  | zero=>
   simp at h;subst h
   have hl:(zb6 a).toList.length=5:=rfl
   simp only[zg6,List.flatMap_cons,Nat.mul_zero,Nat.zero_add]
   rw[List.getElem?_append_left (by omega)]
  | succ k=>
   have hl:(zb6 a).toList.length=5:=rfl
   simp only[zg6,List.flatMap_cons]
   rw[List.getElem?_append_right (by omega),hl,show 5*(k+1)+j-5=5*k+j by omega]
   exact ih (by simpa using h) j hj
theorem around_iter {G:Gl}(hok:za9 G=true){w0 w:World}{B Cv B' X mb:Nat}{v pv bv:Value}{vv ev tv lv:Value}{dB rB sh:Nat}{f g:Nat→Nat→Int}(hCV:CV w0 B Cv B' X mb v pv bv G vv ev tv lv dB rB sh f g)(hBw:B≤w0.heap.size)(hf:InSh (nF G) sh f)(hg:InSh (nF G) sh g)
  {K:Nat} {rv:Value} {xs:List RS} (hx:∀x∈xs,Rok G.n x) (hxl:xs.length≤1000000) (hr:w0.ownsRow K 160 5 rv xs.length (zg6 xs)) (hb0:Below w0.heap.size w0 w) (n:Nat) (hn:1≤n) (N Br Bc Bs R:Nat) (hN0:w0.heap.size≤N) (hN:N≤w.heap.size) (i:Nat) (hi:i<sh)
  (h1:w.cell? ⟨Br,0,none⟩=some rv) (h2:w.cell? ⟨Bc,0,none⟩=some (.pointer (some ⟨Cv,0,none⟩))) (h3:w.cell? ⟨Bs,0,none⟩=some (.int .i64 (i:Int))) (h3f:w.frozen? ⟨Bs,0,none⟩=false) (_n1:zc3 R w Br) (n2:zc3 R w Bc) (n3:zc3 R w Bs) (hR:R<w.heap.size) (hfr:FrR R w) (hBs:N≤Bs) (_d1:Br≠Bs) (d2:Bc≠Bs) :
  SeqLim n Try.prog 128 #[.pointer (some ⟨Br,0,none⟩),.pointer (some ⟨Bc,0,none⟩),.pointer (some ⟨Bs,0,none⟩)] encI (zc3 R) (fun r=>r=Bs) (Spare R N) (fun _=>True)
   (fun ys=>ys=(List.range xs.length).map (fun k=>shA G f g xs i (k+1))) (fun _=>True) xs.length w:=by
 intro l J Jx W hW hJ hJx _ hY h0
 refine callsIn_wide.2 ?_
 show Calls Try.prog 128 #[.func (.yield l) #[] #[],.pointer (some ⟨Br,0,none⟩),.pointer (some ⟨Bc,0,none⟩),.pointer (some ⟨Bs,0,none⟩)] W _
 have hgW:=za6 hW (Nat.le_refl _) none
 obtain⟨m,hm⟩:∃m,m=xs.length:=⟨_,rfl⟩
 obtain⟨ra,rp0,hrv⟩:=za8 hr
 rw[←hm] at hrv
 subst hrv
 have k1:=hgW.cell h1 (by simp)
 have k2:=hgW.cell h2 (by simp)
 have k3:=hgW.cell h3 (by simp)
 have k3f:=(hgW.frozen_far ⟨Bs,0,none⟩ (za0 h3) (by simp)).trans h3f
 have m2:=n2.kept hgW hR (by simp)
 have m3:=n3.kept hgW hR (by simp)
 have mfr:=hfr.kept hgW hR (by simp)
 have hRW:R<W.heap.size:=Nat.lt_of_lt_of_le hR hW.size
 have hNW:N≤W.heap.size:=Nat.le_trans hN hW.size
 have hbW:Below w0.heap.size w0 W:=hb0.trans (hW.mono (by omega))
 have HJ:=Hd4 hJ hJx hY h0
 have HC:=Hd6 hok hCV hf hg hx hr
 have HB:=Hd7 hbW m2 m3 mfr k2 k3 k3f
 have HM:=Lib.hid hm
 have hml:m≤1000000:=by omega
 clear hJ hJx hY h0 hok hCV hf hg hx hr hbW m2 m3 mfr k2 k3 k3f h1 h2 h3 h3f _n1 n2 n3 hfr hb0 hgW hm hW
 go_enter Try.func128,Try.ntmps128
 go_wp2
 clear k1
 go_loopw [9] (fun c wr=>∃k:Nat,k≤m∧c=.int .i64 k∧J ((List.range k).map (fun j=>shA G f g xs i (j+1))) wr∧Below N W wr∧wr.cell? ⟨Bs,0,none⟩=some (.int .i64 (shA G f g xs i k:Nat))∧wr.frozen? ⟨Bs,0,none⟩=false∧zc3 R wr Bc∧zc3 R wr Bs∧FrR R wr∧wr.cell? ⟨Bc,0,none⟩=some (.pointer (some ⟨Cv,0,none⟩))) (fun c _=>m-(intOf c).toNat)
 case atStart=>exact⟨0,by omega,rfl,HJ.out.2.2.2,Below.refl _ _,HB.out.2.2.2.2.2.1,HB.out.2.2.2.2.2.2,HB.out.2.1,HB.out.2.2.1,HB.out.2.2.2.1,HB.out.2.2.2.2.1⟩
 case round=>
  obtain⟨k,hk,rfl,hJk,hB,s3,s3f,nc,ns,fr,s2⟩:=hrel
  rcases Nat.lt_or_ge k m with hkm | hkm
  ·have hxl2:k<xs.length:=by have:=HM.out;omega
   obtain⟨x,hxk⟩:∃x,xs[k]?=some x:=⟨_,List.getElem?_eq_getElem hxl2⟩
   have hxr:=HC.out.2.2.2.2.1 x (List.mem_of_getElem? hxk)
   have hbr:Below w0.heap.size w0 wr:=HB.out.1.trans (hB.mono hN0)
   have hrr:=HC.out.2.2.2.2.2.kept (za6 hbr (Nat.le_refl _) none) (by cases ra<;>simp[Value.ownBlock])
   obtain⟨gr,cr,hgr,_,_⟩:=hrr.form (by omega)
   obtain⟨rfl,-,rfl⟩:ra=some ⟨gr,0,none⟩∧m=xs.length∧rp0=cr:=by simpa using hgr
   have cells:∀j u,j<5→(zb6 x).toList[j]?=some u→wr.cell? ⟨gr,k*5+j,none⟩=some u:=fun j u hj hu=>by
    have:=hrr.cells (g:=gr) rfl (5*k+j) u (by rw[rcells_get hxk j hj];exact hu)
    rw[Addr.add_mid,Nat.zero_add] at this
    rw[show k*5+j=5*k+j by omega];exact this
   have x0:=cells 0 _ (by omega) rfl
   have x1:=cells 1 _ (by omega) rfl
   have x2:=cells 2 _ (by omega) rfl
   have x3:=cells 3 _ (by omega) rfl
   have x4:=cells 4 _ (by omega) rfl
   rw[Nat.add_zero] at x0
   have hsl:=shA_lt HC.out.1 HC.out.2.2.1 HC.out.2.2.2.1 HC.out.2.2.2.2.1 hi k
   have hsn:shA G f g xs i (k+1)=(crF G f g x.1 (rp x 2) (shA G f g xs i k)).toNat:=by simp only[shA,hxk]
   obtain⟨hcr,hcl⟩:=crF_lt HC.out.1 HC.out.2.2.1 HC.out.2.2.2.1 hxr.t (rp_lt hxr 2) hsl
   have hal:=World.grownBy_alloc wr (.cells (zb6 x) 160) none
   have hCV1:=HC.out.2.1.below hBw hbr
   have hCV2:=hCV1.below (by have:=hbr.size;omega) ((Below.refl _ wr).alloc (Nat.le_refl _) (.cells (zb6 x) 160))
   have X56:=cross_walk HC.out.1 hCV2 x.1 (rp x 2) (shA G f g xs i k) hxr.t (rp_lt hxr 2) hsl
   rw[hcr,←hsn] at X56
   have X56':Calls Try.prog 56 #[.pointer (some ⟨Cv,0,none⟩),.int .i64 (x.1:Int),.int .i64 (x.2.2.2.1:Int),.int .i64 (shA G f g xs i k:Nat)] (wr.alloc (.cells #[.int .i64 (x.1:Int),.int .i64 (x.2.1:Int),.int .i64 (x.2.2.1:Int),.int .i64 (x.2.2.2.1:Int),.int .i64 (x.2.2.2.2:Int)] 160)) fun e w'=>e=.returned (.int .i64 (shA G f g xs i (k+1):Nat))∧Below (wr.alloc (.cells (zb6 x) 160)).heap.size (wr.alloc (.cells (zb6 x) 160)) w':=X56
   obtain⟨sn,hsn2⟩:∃z,z=shA G f g xs i (k+1):=⟨_,rfl⟩
   obtain⟨sk,hsk2⟩:∃z,z=shA G f g xs i k:=⟨_,rfl⟩
   rw[←hsn2,←hsk2] at X56'
   rw[←hsk2] at s3
   have HSN:=Lib.hid hsn2
   clear hsn2 hsk2
   have HX:=Lib.hid X56'
   have s2a:=za4 s2
   have s3a:=za4 s3
   have HK:=Hd9 hJk hB s3 s3f nc ns fr s2 hal
   have k0:0≤(k:Int):=by omega
   have km:(k:Int)<(m:Int):=by omega
   clear hrr cells hgr hxk hCV1 hCV2 X56 X56' hJk hB nc ns fr hal hcr hsl hsn hcl hbr hxr
   refine (wpIn_wide (n:=n)).1 ?_
   gi_wp2_with (refine⟨trivial,?_⟩;gi_at_call 56;refine (callsIn_wide.2 HX.out).mono ?_;rintro e W2 ⟨rfl,hb2⟩;obtain⟨hJk,hB,s3,s3f,nc,ns,fr,s2,hal⟩:=HK.out;have gA:wr.grownBy W2 none:=za2 hal (za6 hb2 (Nat.le_refl _) none);have t3:=gA.cell s3 (by simp);have t3f:=(gA.frozen_far ⟨Bs,0,none⟩ (za0 s3) (by simp)).trans s3f;have gB:wr.grownBy (W2.setCell ⟨Bs,0,none⟩ (.int .i64 (sn:Int))) (some Bs):=za2 (grown_row gA _) (za1 _ _ _ _);have hJ3:=HJ.out.1 _ _ _ _ hJk gB (fun r e=>by cases e;exact⟨.inr rfl,ns⟩);obtain⟨fn,tmps,assign,body,hy,hRd⟩:=HJ.out.2.2.1 _ sn (W2.setCell ⟨Bs,0,none⟩ (.int .i64 (sn:Int))) hJ3 (by simp;omega);have HG:=Hd2 gA gB;unfold encI at hy;clear hJk hB s3 s3f nc ns fr s2 hal gA gB hJ3 hb2)
   refine hRd.mono ?_
   rintro e W4 (⟨rfl,hJ4,hs4⟩ | ⟨rfl,hJx4⟩)
   ·have H4:=Hd2 hJ4 hs4;clear hJ4 hs4 hy hRd x0 x1 x2 x3 x4 s2a s3a t3 t3f s2 s3 s3f
    gi_wp2
    go_roundw
    case rel=>
     obtain⟨hJk,hB,s3,s3f,nc,ns,fr,s2,hal⟩:=HK.out
     obtain⟨hJ4,hs4⟩:=H4.out
     obtain⟨gA,gB⟩:=HG.out
     have hRwr:R<wr.heap.size:=Nat.lt_of_lt_of_le hRW hB.size
     have hneS:(some Bs:Option Nat)≠some R:=fun e=>ns.1 (by simpa using e)
     have c3:(W2.setCell ⟨Bs,0,none⟩ (.int .i64 (sn:Int))).cell? ⟨Bs,0,none⟩=some (.int .i64 (sn:Int)):=World.cell?_setCell_same _ _ _ (gA.cell s3 (by simp))
     have c3f:(W2.setCell ⟨Bs,0,none⟩ (.int .i64 (sn:Int))).frozen? ⟨Bs,0,none⟩=false:=by
      rw[World.frozen?_setCell];exact (gA.frozen_far ⟨Bs,0,none⟩ (za0 s3) (by simp)).trans s3f
     have c2:=gB.cell s2 (by simp;exact d2)
     have nsB:=ns.kept gB hRwr hneS
     have ncB:=nc.kept gB hRwr hneS
     have frB:=fr.kept gB hRwr hneS
     refine⟨k+1,by omega,rfl,?_,?_,?_,?_,hs4.own Bc (za0 c2) ncB,hs4.own Bs (za0 c3) nsB,hs4.fr frB,hs4.cell c2 ncB⟩
     ·rw[List.range_succ,List.map_append]
      simp only[List.map_cons,List.map_nil]
      rw[←HSN.out];exact hJ4
     ·exact (hB.grown gB (by have:=hB.size;omega) (fun r e=>by cases e;exact hBs)).trans hs4.below
     ·rw[←HSN.out];exact hs4.cell c3 nsB
     ·exact (hs4.frozen c3 nsB).trans c3f
    case measure=>simp[intOf];omega
   ·have H4:=Lib.hid hJx4;clear hJx4 hy hRd x0 x1 x2 x3 x4 s2a s3a t3 t3f s2 s3 s3f
    gi_wp2
    refine bodyPost_ret (results_none rfl _ _ _) rfl ?_
    exact⟨⟨_,rfl⟩,.inr ⟨_,trivial,H4.out⟩⟩
  ·obtain rfl:k=m:=by omega
   have HK:=Lib.hid hJk
   clear hJk hB s3 s3f nc ns fr s2
   go_wp2
   go_end0
   exact⟨⟨_,rfl⟩,.inl ⟨_,rfl,by rw[←HM.out];exact HK.out⟩⟩
end
section
open Go.RowKit Go.Shelf
theorem around_walk (Cv:Nat)(a:Option Addr)(n c:Nat)(i:Nat)(w:World) :
  Calls Try.prog 119 #[.pointer (some ⟨Cv,0,none⟩),.slice a n c,.int .i64 (i:Int)] w fun e w'=>
   e=.returned (.func (.func 128) #[] #[.pointer (some ⟨w.heap.size+1,0,none⟩),.pointer (some ⟨w.heap.size,0,none⟩),.pointer (some ⟨w.heap.size+2,0,none⟩)]) ∧
   w'=((w.alloc (.cells #[.pointer (some ⟨Cv,0,none⟩)] 90)).alloc (.cells #[.slice a n c] 157)).alloc (.cells #[.int .i64 (i:Int)] 3):=by
 go_enter Try.func119,Try.ntmps119
 have hmf:∀(fn:Fn) (first cap:Array Value) (w:World),(Instr.makeFunc fn first cap).run Try.prog w=.ok (.func fn first cap) w:=fun _ _ _ _=>rfl
 go_wp2
 go_ret
 exact⟨rfl,rfl⟩
def noCov:Value:=.iface 148 (.agg #[])
theorem need_true (w:World):Calls Try.prog 115 #[.bool true] w fun e w'=>(∃v,e=.returned v)∧w'=w:=by
 go_enter Try.func115,Try.ntmps115
 go_wp2
 go_end0
 exact⟨⟨_,rfl⟩,rfl⟩
theorem need_false (w:World):Calls Try.prog 115 #[.bool false] w fun e w'=>e=.panicked [{ v:=noCov,recovered:=false }]∧w'=w:=by
 go_enter Try.func115,Try.ntmps115
 go_wp2
 exact⟨rfl,rfl,rfl⟩
end
end Go.Proofs.Ytlckpgahijlmoaa
