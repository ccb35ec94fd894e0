/- A drawing region of reads and one last operation: the reads' steps, shut against unfolding. No condition. -/
import Derived.Test.YtlckpgahijlmoaaQ24
import Derived.Test.YtlckpgahijlmoaaQ25
import Derived.Test.YtlckpgahijlmoaaQ23
import Derived.Test.YtlckpgahijlmoaaQ15
set_option maxRecDepth 100000
set_option maxHeartbeats 8000000
namespace Go.Proofs.Ytlckpgahijlmoaa
section
open Go.RowKit Go.Shelf
theorem range_getD (tm:Array Value)(n:Nat)(h:tm.size=n):tm=((List.range n).map (fun i=>tm.getD i undef)).toArray:=by
 apply Array.ext
 ·simp[h]
 ·intro i h1 h2
  simp[Array.getElem?_eq_getElem h1]
theorem frame190 (tm:Array Value)(h:tm.size=190):∃u:Nat→Value,tm=#[u 0,u 1,u 2,u 3,u 4,u 5,u 6,u 7,u 8,u 9,u 10,u 11,u 12,u 13,u 14,u 15,u 16,u 17,u 18,u 19,u 20,u 21,u 22,u 23,u 24,u 25,u 26,u 27,u 28,u 29,u 30,u 31,u 32,u 33,u 34,u 35,u 36,u 37,u 38,u 39,u 40,u 41,u 42,u 43,u 44,u 45,u 46,u 47,u 48,u 49,u 50,u 51,u 52,u 53,u 54,u 55,u 56,u 57,u 58,u 59,u 60,u 61,u 62,u 63,u 64,u 65,u 66,u 67,u 68,u 69,u 70,u 71,u 72,u 73,u 74,u 75,u 76,u 77,u 78,u 79,u 80,u 81,u 82,u 83,u 84,u 85,u 86,u 87,u 88,u 89,u 90,u 91,u 92,u 93,u 94,u 95,u 96,u 97,u 98,u 99,u 100,u 101,u 102,u 103,u 104,u 105,u 106,u 107,u 108,u 109,u 110,u 111,u 112,u 113,u 114,u 115,u 116,u 117,u 118,u 119,u 120,u 121,u 122,u 123,u 124,u 125,u 126,u 127,u 128,u 129,u 130,u 131,u 132,u 133,u 134,u 135,u 136,u 137,u 138,u 139,u 140,u 141,u 142,u 143,u 144,u 145,u 146,u 147,u 148,u 149,u 150,u 151,u 152,u 153,u 154,u 155,u 156,u 157,u 158,u 159,u 160,u 161,u 162,u 163,u 164,u 165,u 166,u 167,u 168,u 169,u 170,u 171,u 172,u 173,u 174,u 175,u 176,u 177,u 178,u 179,u 180,u 181,u 182,u 183,u 184,u 185,u 186,u 187,u 188,u 189]∧∀i,i<190→tm[i]?=some (u i):=by
 refine⟨fun i=>tm.getD i undef,(range_getD tm 190 h).trans rfl,fun i hi=>?_⟩
 simp[Array.getElem?_eq_getElem (show i<tm.size by omega)]
def Marks (ds:List Deferred)(W:World)(B:Nat):Prop:=
 ∃rs:List Nat,ds=rs.map (fun r=>{ target:=.collected r,args:=#[] })∧rs.Nodup∧∀r∈rs,B≤r∧W.heap[r]?=some (.deferred (some []))
theorem Marks.nil (W:World)(B:Nat):Marks [] W B:=⟨[],rfl,by simp,by simp⟩
theorem Marks.kept {ds:List Deferred}{W W':World}{B:Nat}(h:Marks ds W B)(hk:∀r,B≤r→W.heap[r]?=some (.deferred (some []))→W'.heap[r]?=some (.deferred (some []))):Marks ds W' B:=by
 obtain⟨rs,e,hn,hr⟩:=h
 exact⟨rs,e,hn,fun r hm=>⟨(hr r hm).1,hk r (hr r hm).1 (hr r hm).2⟩⟩
theorem Marks.grown {ds:List Deferred}{W W':World}{B:Nat}(h:Marks ds W B)(hg:W.grownBy W' none):Marks ds W' B:=h.kept fun r _ hr=>(hg.block r (Array.getElem?_eq_some_iff.1 hr).1 (by simp)).trans hr
theorem Marks.push {ds:List Deferred}{W W':World}{B D:Nat}(h:Marks ds W B)(hD:W.heap.size≤D)(hB:B≤D)(hk:∀r,B≤r→W.heap[r]?=some (.deferred (some []))→W'.heap[r]?=some (.deferred (some [])))(hd:W'.heap[D]?=some (.deferred (some []))):Marks ({ target:=.collected D,args:=#[] } :: ds) W' B:=by
 obtain⟨rs,e,hn,hr⟩:=h
 refine⟨D :: rs,by rw[e];rfl,List.nodup_cons.2 ⟨fun hm=>?_,hn⟩,fun r hm=>?_⟩
 ·have:=(Array.getElem?_eq_some_iff.1 (hr D hm).2).1;omega
 ·rcases List.mem_cons.1 hm with rfl | hm
  ·exact⟨hB,hd⟩
  ·exact⟨(hr r hm).1,hk r (hr r hm).1 (hr r hm).2⟩
theorem leaves_marks {F:Fence}{n:Nat}{fn:Func}{tmps:Array Value}{R:Ending→World→Prop}{u:FrameMode}(hu:u≠.run)(B:Nat) :
  ∀(rs:List Nat) (W:World),rs.Nodup→(∀r∈rs,B≤r∧W.heap[r]?=some (.deferred (some [])))→(∀W',Below B W W'→LeavesInM F n Try.prog fn tmps R [] u W') →
   B≤W.heap.size→LeavesInM F n Try.prog fn tmps R (rs.map (fun r=>{ target:=.collected r,args:=#[] })) u W
 | [],W,_,_,hk,_=>hk W (Below.refl _ _)
 | r :: rs,W,hn,hr,hk,hB=>by
  obtain⟨hn1,hn2⟩:=List.nodup_cons.1 hn
  have h1:=hr r (by simp)
  have hp:=grownBy_putObj' W r (.deferred none)
  have hb:Below B W (W.putObj r (.deferred none)):=(Below.refl _ _).grown hp hB (fun k e=>by cases e;exact h1.1)
  refine⟨hu,.inl ⟨r,_,rfl,run_takeDeferred h1.2,?_⟩⟩
  refine leaves_marks hu B rs _ hn2 (fun r' hm=>⟨(hr r' (by simp[hm])).1,?_⟩) (fun W' hb'=>hk W' (hb.trans hb')) (by simpa using hB)
  have hne:r'≠r:=fun e=>hn1 (by rw[←e];exact hm)
  exact (World.putObj_heap_other hne).trans (hr r' (by simp[hm])).2
theorem Marks.leaves {F:Fence}{n:Nat}{fn:Func}{tmps:Array Value}{R:Ending→World→Prop}{u:FrameMode}{ds:List Deferred}{W:World}{B:Nat}(h:Marks ds W B)(hu:u≠.run)(hB:B≤W.heap.size)(hk:∀W',Below B W W'→LeavesInM F n Try.prog fn tmps R [] u W'):LeavesInM F n Try.prog fn tmps R ds u W:=by
 obtain⟨rs,rfl,hn,hr⟩:=h
 exact leaves_marks hu B rs W hn hr hk hB
def lastI (i:Nat)(pre:List Nat):Nat:=pre.getLast?.getD i
theorem lastI_snoc (i x:Nat)(pre:List Nat):lastI i (pre++[x])=x:=by simp[lastI]
theorem lastI_sh (G:Gl)(f g:Nat→Nat→Int)(xs:List RS)(i m:Nat):lastI i ((List.range m).map (fun k=>shA G f g xs i (k+1)))=shA G f g xs i m:=by
 cases m with
 | zero=>rfl
 | succ m=>rw[List.range_succ,List.map_append];exact lastI_snoc _ _ _
structure LI (W0:World)(L Z i:Nat)(pre:List Nat)(W:World):Prop where
 os:W.os=W0.os
 tape:W.tape=W0.tape
 output:W.output=W0.output
 size:W0.heap.size≤W.heap.size
 blk:∀k,k<W0.heap.size→k≠L→k≠Z→W.heap[k]?=W0.heap[k]?
 c:W.cell? ⟨L,0,none⟩=some (.int .i64 (lastI i pre:Nat))
 f:W.frozen? ⟨L,0,none⟩=false
theorem LI.kept {W0 W W':World}{L Z i:Nat}{pre:List Nat}(hL:L<W0.heap.size)(hLZ:L≠Z)(h:LI W0 L Z i pre W){row:Option Nat}(hg:W.grownBy W' row)(hr:∀r,row=some r→W0.heap.size≤r∨r=Z):LI W0 L Z i pre W':=by
 have hne:some L≠row:=fun e=>by rcases hr L e.symm with h1 | h1<;>omega
 refine⟨hg.os.trans h.os,hg.tape.trans h.tape,hg.output.trans h.output,Nat.le_trans h.size hg.size,fun k hk h1 h2=>?_,hg.cell h.c hne,(hg.frozen_far ⟨L,0,none⟩ (Nat.lt_of_lt_of_le hL h.size) hne).trans h.f⟩
 exact (hg.block k (Nat.lt_of_lt_of_le hk h.size) (fun e=>by rcases hr k e.symm with q | q<;>omega)).trans (h.blk k hk h1 h2)
theorem LI.abides {W0:World}{L Z i:Nat}(hL:L<W0.heap.size)(hLZ:L≠Z):AbidesOk (zc3 L) (fun r=>r=Z) W0.heap.size (LI W0 L Z i):=fun _pre _W _W' _row h hg hr=>h.kept hL hLZ hg (fun r e=>(hr r e).1)
theorem LI.own {W0:World}{L Z i:Nat}(hL:L<W0.heap.size)(hLZ:L≠Z):OwnFrom W0.heap.size (LI W0 L Z i):=fun _pre _W _W' _row h hg hr=>h.kept hL hLZ hg (fun r e=>.inl (hr r e).1)
theorem LI.set {W0 W:World}{L Z i N:Nat}{pre:List Nat}(hN:N≤L)(hL:L<W0.heap.size)(h:LI W0 L Z i pre W)(x:Nat) :
  KeepsFrom W0.heap.size W (W.setCell ⟨L,0,none⟩ (.int .i64 (x:Int)))∧Spare L N W (W.setCell ⟨L,0,none⟩ (.int .i64 (x:Int)))∧LI W0 L Z i (pre++[x]) (W.setCell ⟨L,0,none⟩ (.int .i64 (x:Int))):=by
 have hg:=za1 W L 0 (.int .i64 (x:Int))
 have hc:(W.setCell ⟨L,0,none⟩ (.int .i64 (x:Int))).cell? ⟨L,0,none⟩=some (.int .i64 (x:Int)):=World.cell?_setCell_same _ _ _ h.c
 have hN0:N≤W.heap.size:=by have:=h.size;omega
 refine⟨zd1 (KeepsFrom.refl _ _) _ _,⟨(Below.refl N W).grown hg hN0 (fun k e=>by cases e;exact hN),fun k c t f hi hn=>hg.block k (Array.getElem?_eq_some_iff.1 hi).1 (fun e=>hn.1 (by cases e;rfl)),fun k _ hn=>⟨hn.1,fun v hv=>?_⟩,fun _ v hv=>?_⟩,⟨hg.os.trans h.os,hg.tape.trans h.tape,hg.output.trans h.output,Nat.le_trans h.size hg.size,fun k hk h1 h2=>(hg.block k (Nat.lt_of_lt_of_le hk h.size) (fun e=>h1 (by cases e;rfl))).trans (h.blk k hk h1 h2),by rw[lastI_snoc];exact hc,by rw[World.frozen?_setCell];exact h.f⟩⟩
 ·rw[hc] at hv;cases hv;simp[Value.ownBlock]
 ·rw[hc] at hv;cases hv;simp[Value.ownBlock]
end
section
open Go.RowKit Go.Shelf Go.Maps
attribute [local go_sem] Oper.semAt_some
def cL:Code→Code
 | .seq a _=>a
 | c=>c
def cR:Code→Code
 | .seq _ b=>b
 | c=>c
def cIn:Code→Code
 | .loop c=>c
 | .block _ c=>c
 | c=>c
def kTail (f:Func):Code:=cR (cR (cR (cR (cR (cR (f.body.getD .skip))))))
def kRow (f:Func):Code:=cIn (cL (cR (cR (cIn (cIn (cR (cL (cR (kTail f)))))))))
def kEdge (f:Func):Code:=cIn (cL (cR (cR (cIn (cIn (cR (cR (kRow f))))))))
def kSheets (f:Func):Code:=cIn (cR (cR (cR (cR (cR (cR (kEdge f)))))))
theorem of_loop {P:Program}{Q:Exit→Act→World→Prop}{a:Act}{w:World}{c b:Code}(h:c=Code.loop b)(hw:(Code.loop b).wp P Q a w):c.wp P Q a w:=h▸hw
structure KpS (t t':Array Value):Prop where
 size:t'.size=190
 k0:t'[0]?=t[0]?
 k3:t'[3]?=t[3]?
 k6:t'[6]?=t[6]?
 k13:t'[13]?=t[13]?
 k14:t'[14]?=t[14]?
 k18:t'[18]?=t[18]?
 k137:t'[137]?=t[137]?
 k138:t'[138]?=t[138]?
 k139:t'[139]?=t[139]?
 k144:t'[144]?=t[144]?
 k145:t'[145]?=t[145]?
theorem KpS.trans {a b c:Array Value}(h:KpS a b)(g:KpS b c):KpS a c:=
 ⟨g.size,g.k0.trans h.k0,g.k3.trans h.k3,g.k6.trans h.k6,g.k13.trans h.k13,g.k14.trans h.k14,g.k18.trans h.k18,g.k137.trans h.k137,g.k138.trans h.k138,g.k139.trans h.k139,g.k144.trans h.k144,g.k145.trans h.k145⟩
theorem sheets_walk {G:Gl}(hok:za9 G=true){W1:World}{B Cv B' X mb:Nat}{v pv bv:Value}{vv ev tv lv:Value}{dB rB sh:Nat}{f g:Nat→Nat→Int}(hCV:CV W1 B Cv B' X mb v pv bv G vv ev tv lv dB rB sh f g)(hBw:B≤W1.heap.size)(hf:InSh (nF G) sh f)(hg:InSh (nF G) sh g)(hsh:sh≤24)
  {K:Nat} {rv:Value} {xs:List RS} (hx:∀x∈xs,Rok G.n x) (hxl:xs.length≤1000000) (hr:W1.ownsRow K 160 5 rv xs.length (zg6 xs)) {Bq N0:Nat} (hq:W1.cell? ⟨Bq,0,none⟩=some (.int .i64 (sh:Int))) (hN0:N0≤W1.heap.size)
  (tm:Array Value) (ds:List Deferred) (hs:tm.size=190) (s3:tm[3]?=some (.pointer (some ⟨Bq,0,none⟩))) (s6:tm[6]?=some (.pointer (some ⟨Cv,0,none⟩))) (s18:tm[18]?=some rv) (s171:tm[171]?=some (.int .i64 (sh:Int))) (s172:tm[172]?=some (.int .i64 0)) (hm:Marks ds W1 N0) {Q:Exit→Act→World→Prop}
  (hdone:∀tm' ds' W',KpS tm tm'→Marks ds' W' N0→Below W1.heap.size W1 W'→(∀i,i<sh→shA G f g xs i xs.length=i)→Q (.exit 10) { tmps:=tm',defers:=ds' } W')
  (hpan:∀tm' ds' W',Marks ds' W' N0→Below W1.heap.size W1 W'→(∃i,i<sh∧shA G f g xs i xs.length≠i)→Q (.panic [{ v:=noCov,recovered:=false }]) { tmps:=tm',defers:=ds' } W') :
  (kSheets Try.f85).wp Try.prog Q { tmps:=tm,defers:=ds } W1:=by
 refine of_loop rfl ?_
 obtain⟨ra,rp0,hrv⟩:=za8 hr
 subst hrv
 have HQ:=Hd2 hdone hpan
 have HC:=Hd6 hok hCV hf hg hx hr
 have HS:=Hd4 hs s3 s6 s18
 clear hdone hpan hok hCV hf hg hx hr
 refine wp_loop_ghost (fun n a W=>∃k:Nat,k≤sh∧n=sh-k∧KpS tm a.tmps∧a.tmps[171]?=some (.int .i64 (sh:Int))∧a.tmps[172]?=some (.int .i64 (k:Int))∧Marks a.defers W N0∧Below W1.heap.size W1 W∧∀i,i<k→shA G f g xs i xs.length=i) sh ⟨0,by omega,rfl,⟨hs,rfl,rfl,rfl,rfl,rfl,rfl,rfl,rfl,rfl,rfl,rfl⟩,s171,s172,hm,Below.refl _ _,fun i hi=>by omega⟩ ?_
 clear s171 s172 hm hs s3 s6 s18
 rintro n ⟨tm',ds'⟩ W ⟨k,hk,rfl,hK,s171,s172,hm,hb,hgood⟩
 obtain⟨hs,s3,s6,s18⟩:=HS.out
 rw[←hK.k3] at s3
 rw[←hK.k6] at s6
 rw[←hK.k18] at s18
 obtain⟨u,hu,-⟩:=frame190 tm' hK.size
 simp only at hu
 subst hu
 have e3:u 3=.pointer (some ⟨Bq,0,none⟩):=Option.some.inj s3
 have e6:u 6=.pointer (some ⟨Cv,0,none⟩):=Option.some.inj s6
 have e18:u 18=.slice ra xs.length rp0:=Option.some.inj s18
 have e171:u 171=.int .i64 (sh:Int):=Option.some.inj s171
 have e172:u 172=.int .i64 (k:Int):=Option.some.inj s172
 have HK:=Hd4 hK hm hb hgood
 clear hK s171 s172 s3 s6 s18 hs hm hb hgood
 rcases Nat.lt_or_ge k sh with hks | hks
 ·have hA:=fun (W:World)=>around_walk Cv ra xs.length rp0 k W
  have HA:=Lib.hid hA;clear hA
  go_wp2_with (go_at_call 119;(with_reducible refine (HA.out _).mono ?_);rintro e W2 ⟨rfl,hW2⟩)
  obtain⟨L,hL⟩:∃L,L=W.heap.size:=⟨_,rfl⟩
  clear hW2
  refine zb3 fun W2 hW2=>?_
  have hbW:=HK.out.2.2.1
  have hLW:=hbW.size
  have h2:(W2.cell? ⟨L,0,none⟩=some (.int .i64 (k:Int))∧W2.frozen? ⟨L,0,none⟩=false)∧W2.cell? ⟨L+1,0,none⟩=some (.pointer (some ⟨Cv,0,none⟩))∧W2.cell? ⟨L+2,0,none⟩=some (.slice ra xs.length rp0)∧(W2.cell? ⟨L+3,0,none⟩=some (.int .i64 (k:Int))∧W2.frozen? ⟨L+3,0,none⟩=false)∧W2.heap.size=L+4∧W.grownBy W2 none:=by
   have g1:=World.grownBy_alloc W (.cells #[.int .i64 (k:Int)] 3) none
   have g2:=World.grownBy_alloc (W.alloc (.cells #[.int .i64 (k:Int)] 3)) (.cells #[.pointer (some ⟨Cv,0,none⟩)] 90) none
   have g3:=World.grownBy_alloc ((W.alloc (.cells #[.int .i64 (k:Int)] 3)).alloc (.cells #[.pointer (some ⟨Cv,0,none⟩)] 90)) (.cells #[.slice ra xs.length rp0] 157) none
   have g4:=World.grownBy_alloc (((W.alloc (.cells #[.int .i64 (k:Int)] 3)).alloc (.cells #[.pointer (some ⟨Cv,0,none⟩)] 90)).alloc (.cells #[.slice ra xs.length rp0] 157)) (.cells #[.int .i64 (k:Int)] 3) none
   rw[hW2]
   refine⟨⟨?_,?_⟩,?_,?_,⟨?_,?_⟩,by simp;omega,za2 g1 (za2 g2 (za2 g3 g4))⟩
   ·rw[hL];simp[go_sem]
   ·rw[hL];simp[go_sem]
   ·rw[hL];simp[go_sem]
   ·rw[hL];simp[go_sem]
   ·rw[hL];simp[go_sem]
   ·rw[hL];simp[go_sem]
  have hgr:=h2.2.2.2.2.2
  have hsz:=Nat.le_of_eq h2.2.2.2.2.1
  have hsz2:=Nat.le_of_eq h2.2.2.2.2.1.symm
  have hb2:Below W1.heap.size W1 W2:=hbW.grown hgr hLW (fun k e=>by cases e)
  simp only[←hL]
  rw[←hL] at hLW
  have HL:=Hd3 hL hbW hgr
  clear hW2 hL hbW hgr
  refine act_named fun A hA=>?_
  refine (wpIn_wide (n:=6)).1 ?_
  have hnn:∀i,i≠L→zc3 L W2 i:=fun i hi=>⟨hi,fun v hv=>by rw[h2.1.1] at hv;cases hv;simp[Value.ownBlock]⟩
  have hfr:FrR L W2:=fun v hv=>by rw[h2.1.1] at hv;cases hv;simp[Value.ownBlock]
  obtain⟨hok,hCV,hf,hg,hx,hr⟩:=HC.out
  have hit:=around_iter hok hCV hBw hf hg hx hxl hr hb2 5 (by omega) W1.heap.size (L+2) (L+1) (L+3) L (Nat.le_refl _) (by omega) k hks h2.2.2.1 h2.2.1 h2.2.2.2.1.1 h2.2.2.2.1.2 (hnn _ (by omega)) (hnn _ (by omega)) (hnn _ (by omega)) (by omega) hfr (by omega) (by omega) (by omega)
  have HI:=Lib.hid hit
  have H2:=Hd2 h2 hb2
  clear hit hok hCV hf hg hx hr hnn hfr h2 hb2
  have hLs:L<W2.heap.size:=by omega
  refine zg4 (by omega) (gf:=128) (lb:=#[.pointer (some ⟨L+2,0,none⟩),.pointer (some ⟨L+1,0,none⟩),.pointer (some ⟨L+3,0,none⟩)]) (by rw[hA];rfl) (enters_of Try.func128 (by kernel_rfl) rfl) HI.out (fun r h=>by subst h;omega) Spare.trans (fun W l r r' hl h=>spare_put (by omega) h) (Below.refl _ _) (fun _=>rfl)
   (LI W2 L (L+3) k) (fun _ _=>False) (fun _ _ _=>trivial) (LI.own hLs (by omega)) (fun _ _ _ _ h _ _=>h.elim) (LI.abides hLs (by omega)) (fun _ _ _ _ h _ _=>h.elim)
   ⟨rfl,rfl,rfl,Nat.le_refl _,fun _ _ _ _=>rfl,H2.out.1.1.1,H2.out.1.1.2⟩ (fun x a' W=>a'={ tmps:=(A.tmps.setIfInBounds 180 (.int .i64 (x:Int))).setIfInBounds 23 (.int .i64 (x:Int)),defers:=[] }) (fun x a' _ _ _ _ h _ _=>h) ?assign ?body ?done ?stop
  case assign=>
   rintro l pre x W3 K hI hK
   have HK2:=Lib.hid hK;clear hK
   have HI2:=Lib.hid hI;clear hI
   subst hA
   unfold encI at *
   gi_wp2
   exact HK2.out _ _ (KeepsFrom.refl _ _) ⟨Below.refl _ _,fun _ _ _ _ _ _=>rfl,fun _ _ h=>h,fun h=>h⟩ HI2.out rfl
  case body=>
   rintro l pre x a' W3 hl hI rfl hNb
   have hI0:=hI.c
   have hI1:=hI.f
   have HI2:=Lib.hid hI;clear hI
   subst hA
   gi_wp2
   exact HI2.out.set hLW hLs x
  case stop=>
   rintro D2 pre W5 _ _ h _
   exact h.elim
  case done=>
   rintro D xs' W3 hD hxs hI hK2
   subst hxs
   obtain⟨z,hz⟩:∃z,z=shA G f g xs k xs.length:=⟨_,rfl⟩
   have hc:=hI.c
   rw[lastI_sh,←hz] at hc
   have hW3:Below W1.heap.size W1 W3:=by
    have h3:Below W1.heap.size W2 W3:=⟨hI.os,hI.tape,hI.output,hI.size,fun i hi=>hI.blk i (by omega) (by omega) (by omega)⟩
    exact H2.out.2.trans h3
   have hLe:=HL.out.1
   have hM:Marks ({ target:=.collected D,args:=#[] } :: ds') W3 N0:=HK.out.2.1.push (by omega) (by omega) (fun r _ hr=>by
    have hlt:=(Array.getElem?_eq_some_iff.1 hr).1
    have h4:=(HL.out.2.2.block r hlt (by simp)).trans hr
    exact (hI.blk r (by omega) (by omega) (by omega)).trans h4) hK2
   have HR:=Hd3 hz hW3 hM
   clear hI hK2 hz hW3 hM hLe
   subst hA
   by_cases hzk:z=k
   ·have q1:((z:Int)==(k:Int))=true:=by simp;omega
    go_wp2_with (go_at_call 115;(with_reducible refine (need_true _).mono ?_);rintro e w5 ⟨⟨v5,rfl⟩,rfl⟩)
    obtain⟨hK,_,_,hgood⟩:=HK.out
    refine⟨sh-(k+1),by omega,k+1,by omega,rfl,hK.trans ⟨rfl,rfl,congrArg some e3.symm,congrArg some e6.symm,rfl,rfl,congrArg some e18.symm,rfl,rfl,rfl,rfl,rfl⟩,rfl,rfl,HR.out.2.2,HR.out.2.1,fun i hi=>?_⟩
    rcases Nat.lt_or_ge i k with h | h
    ·exact hgood i h
    ·obtain rfl:i=k:=by omega
     rw[←HR.out.1];exact hzk
   ·have q1:((z:Int)==(k:Int))=false:=by simp;omega
    go_wp2_with (go_at_call 115;(with_reducible refine (need_false _).mono ?_);rintro e w5 ⟨rfl,rfl⟩)
    exact HQ.out.2 _ _ _ HR.out.2.2 HR.out.2.1 ⟨k,hks,by rw[←HR.out.1];exact hzk⟩
 ·obtain rfl:k=sh:=by omega
  go_wp2
  obtain⟨hK,hm,hb,hgood⟩:=HK.out
  exact HQ.out.1 _ _ _ (hK.trans ⟨rfl,rfl,congrArg some e3.symm,congrArg some e6.symm,rfl,rfl,congrArg some e18.symm,rfl,rfl,rfl,rfl,rfl⟩) hm hb hgood
end
section
open Go.RowKit Go.Shelf Go.Maps
attribute [local go_sem] Oper.semAt_some
def ze1 (G:Gl)(f g:Nat→Nat→Int)(sh:Nat)(s:RS):Prop:=
 ∀m,0<m→itr G 2 s m=some s→(∀i,0<i→i<m→itr G 2 s i≠some s)→∀i,i<sh→shA G f g (pth G 2 s m) i m=i
theorem ring_uniq {G:Gl}{s:RS}{m m':Nat}(h0:0<m)(h0':0<m')(h1:itr G 2 s m=some s)(h2:∀i,0<i→i<m→itr G 2 s i≠some s)(h1':itr G 2 s m'=some s)(h2':∀i,0<i→i<m'→itr G 2 s i≠some s):m=m':=by
 rcases Nat.lt_trichotomy m m' with h | h | h
 ·exact absurd h1 (h2' m h0 h)
 ·exact h
 ·exact absurd h1' (h2 m' h0' h)
theorem ring_all {G:Gl}{s:RS}{m:Nat}(h1:itr G 2 s m=some s):∀i,i<m→itr G 2 s i≠none:=fun i hi e=>by
 rw[zg9 e (by omega:i≤m)] at h1;cases h1
theorem ring_turns {G:Gl}{s:RS}{m:Nat}(h1:itr G 2 s m=some s):∀j,itr G 2 s (m*j)=some s:=by
 intro j
 induction j with
 | zero=>rfl
 | succ j ih=>rw[Nat.mul_succ,itr_add,ih];exact h1
theorem ring_open {G:Gl}{f g:Nat→Nat→Int}{sh:Nat}{s:RS}{k:Nat}(h:itr G 2 s k=none):ze1 G f g sh s:=fun m h0 h1 _=>by
 have h3:=ring_turns h1 k
 rw[zg9 h (Nat.le_mul_of_pos_left k h0)] at h3
 cases h3
theorem ring_len {G:Gl}(hok:za9 G=true){s:RS}(hs:Rok G.n s){m:Nat}(h1:itr G 2 s m=some s)(h2:∀i,0<i→i<m→itr G 2 s i≠some s):m≤256*G.n+1:=by
 obtain⟨k0,hk0,hle,hkk⟩:=itr_ends hok (.inl ⟨rfl,rfl⟩) hs
 rcases Nat.lt_or_ge (256*G.n+1) m with h | h
 ·exfalso
  rcases hkk with e | e
  ·rw[zg9 e (by omega:k0≤m)] at h1;cases h1
  ·exact h2 k0 hk0 (by omega) e
 ·exact h
def firstE (G:Gl)(q:Nat):Prop:=∀q',q'<q→eN G q'≠eN G q
def ringsTo (G:Gl)(f g:Nat→Nat→Int)(sh p:Nat):Prop:=∀q,q<p→firstE G q→ze1 G f g sh (frS (q / 6) (q % 6))
def metB (G:Gl)(p j:Nat):Bool:=(List.range p).any fun q=>eN G q==j
theorem metB_succ (G:Gl)(p j:Nat):metB G (p+1) j=(metB G p j || (eN G p==j)):=by simp[metB,List.range_succ]
theorem metB_first {G:Gl}{p:Nat}:metB G p (eN G p)=false↔firstE G p:=by
 simp only[metB,firstE,List.any_eq_false,List.mem_range,beq_iff_eq]
theorem ringsTo_skip {G:Gl}{f g:Nat→Nat→Int}{sh p:Nat}(h:ringsTo G f g sh p)(hm:metB G p (eN G p)=true):ringsTo G f g sh (p+1):=fun q hq hf=>by
 rcases Nat.lt_or_ge q p with h1 | h1
 ·exact h q h1 hf
 ·obtain rfl:q=p:=by omega
  rw[metB_first.2 hf] at hm;cases hm
theorem ringsTo_succ {G:Gl}{f g:Nat→Nat→Int}{sh t e:Nat}(he:e<6)(h:ringsTo G f g sh (6*t+e))(hr:ze1 G f g sh (frS t e)):ringsTo G f g sh (6*t+e+1):=fun q hq hf=>by
 rcases Nat.lt_or_ge q (6*t+e) with h1 | h1
 ·exact h q h1 hf
 ·obtain rfl:q=6*t+e:=by omega
  rw[show (6*t+e) / 6=t by omega,show (6*t+e) % 6=e by omega]
  exact hr
theorem frS_ok {n t e:Nat}(ht:t<n)(he:e<6):Rok n (frS t e):=⟨ht,(frC_lt e he).1,(frC_lt e he).2⟩
structure JW (W0 W:World)(M N0:Nat)(ds:List Deferred)(G:Gl)(f g:Nat→Nat→Int)(sh p:Nat):Prop where
 bel:Below W0.heap.size W0 W
 met:W.rowIs M 4 (nE G) (fun j=>.bool (metB G p j))
 marks:Marks ds W N0
 rings:ringsTo G f g sh p
theorem P162_index (cs:Array Value)(k:Nat)(v:Value)(hv:cs[k]?=some v)(hk:k<6)(w:World):(Instr.index 162 (.agg cs) (.int .i64 (k:Int))).run Try.prog w=.ok v w:=
 run_index_cell (n:=6) (d:=.int .i64) (by kernel_rfl) Try.underlying3 rfl (by kernel_rfl) _ _ _ hk _ hv w
def rowE (G:Gl)(t:Nat):Array Value:=#[.int .i64 (eN G (6*t):Nat),.int .i64 (eN G (6*t+1):Nat),.int .i64 (eN G (6*t+2):Nat),.int .i64 (eN G (6*t+3):Nat),.int .i64 (eN G (6*t+4):Nat),.int .i64 (eN G (6*t+5):Nat)]
theorem rowE_get (G:Gl)(t e:Nat)(he:e<6):(rowE G t)[e]?=some (.int .i64 (eN G (6*t+e):Nat)):=by
 have h:e=0∨e=1∨e=2∨e=3∨e=4∨e=5:=by omega
 rcases h with rfl | rfl | rfl | rfl | rfl | rfl<;>rfl
structure KpR (t t':Array Value):Prop where
 size:t'.size=190
 k0:t'[0]?=t[0]?
 k3:t'[3]?=t[3]?
 k6:t'[6]?=t[6]?
 k13:t'[13]?=t[13]?
 k137:t'[137]?=t[137]?
 k138:t'[138]?=t[138]?
 k139:t'[139]?=t[139]?
theorem KpR.trans {a b c:Array Value}(h:KpR a b)(g:KpR b c):KpR a c:=
 ⟨g.size,g.k0.trans h.k0,g.k3.trans h.k3,g.k6.trans h.k6,g.k13.trans h.k13,g.k137.trans h.k137,g.k138.trans h.k138,g.k139.trans h.k139⟩
def kRowLoop (f:Func):Code:=cIn (cR (cR (kRow f)))
theorem row_walk {G:Gl}(hok:za9 G=true){W0:World}{B Cv B' X mb:Nat}{v pv bv:Value}{vv ev tv lv:Value}{dB rB sh:Nat}{f g:Nat→Nat→Int}(hCV:CV W0 B Cv B' X mb v pv bv G vv ev tv lv dB rB sh f g)(hBw:B≤W0.heap.size)(hf:InSh (nF G) sh f)(hg:InSh (nF G) sh g)(hsh:sh≤24)
  (hGl:GlAt W0.heap.size W0 v G) {Bq M N0:Nat} (hq:W0.cell? ⟨Bq,0,none⟩=some (.int .i64 (sh:Int))) (hN0:N0≤W0.heap.size) (hM:W0.heap.size≤M) {t:Nat} (ht:t<G.n)
  (tm:Array Value) (ds:List Deferred) (W:World) (hs:tm.size=190) (s0:tm[0]?=some (.pointer (some ⟨X,0,none⟩))) (s3:tm[3]?=some (.pointer (some ⟨Bq,0,none⟩))) (s6:tm[6]?=some (.pointer (some ⟨Cv,0,none⟩)))
  (s13:tm[13]?=some (.slice (some ⟨M,0,none⟩) (nE G) (nE G))) (s14:tm[14]?=some (.int .i64 (t:Int))) (s144:tm[144]?=some (.agg (rowE G t))) (s145:tm[145]?=some (.int .i64 0)) (hJ:JW W0 W M N0 ds G f g sh (6*t)) {Q:Exit→Act→World→Prop}
  (hdone:∀tm' ds' W',KpR tm tm'→JW W0 W' M N0 ds' G f g sh (6*(t+1))→Q (.exit 8) { tmps:=tm',defers:=ds' } W')
  (hpan:∀tm' ds' W',Marks ds' W' N0→Below W0.heap.size W0 W'→¬ringsTo G f g sh (6*G.n)→Q (.panic [{ v:=noCov,recovered:=false }]) { tmps:=tm',defers:=ds' } W') :
  (kRowLoop Try.f85).wp Try.prog Q { tmps:=tm,defers:=ds } W:=by
 refine of_loop rfl ?_
 have hn:G.n≤1000:=by simp only[za9,Bool.and_eq_true,decide_eq_true_eq] at hok;exact hok.1
 have HQ:=Hd2 hdone hpan
 have HC:=Hd6 hok hCV hf hg hGl hq
 have HS:=Hd7 hs s0 s3 s6 s13 s14 s144
 clear hdone hpan hok hCV hf hg hGl hq
 refine wp_loop_ghost (fun n a W=>∃e:Nat,e≤6∧n=6-e∧KpR tm a.tmps∧a.tmps[14]?=some (.int .i64 (t:Int))∧a.tmps[144]?=some (.agg (rowE G t))∧a.tmps[145]?=some (.int .i64 (e:Int))∧JW W0 W M N0 a.defers G f g sh (6*t+e)) 6 ⟨0,by omega,rfl,⟨hs,rfl,rfl,rfl,rfl,rfl,rfl,rfl⟩,s14,s144,s145,hJ⟩ ?_
 clear s0 s3 s6 s13 s14 s144 s145 hs hJ
 rintro n ⟨tm',ds'⟩ W ⟨e,he,rfl,hK,s14,s144,s145,hJ⟩
 obtain⟨hs,s0,s3,s6,s13,-,-⟩:=HS.out
 rw[←hK.k0] at s0
 rw[←hK.k3] at s3
 rw[←hK.k6] at s6
 rw[←hK.k13] at s13
 obtain⟨u,hu,-⟩:=frame190 tm' hK.size
 simp only at hu
 subst hu
 have e0:u 0=.pointer (some ⟨X,0,none⟩):=Option.some.inj s0
 have e3:u 3=.pointer (some ⟨Bq,0,none⟩):=Option.some.inj s3
 have e6:u 6=.pointer (some ⟨Cv,0,none⟩):=Option.some.inj s6
 have e13:u 13=.slice (some ⟨M,0,none⟩) (nE G) (nE G):=Option.some.inj s13
 have e14:u 14=.int .i64 (t:Int):=Option.some.inj s14
 have e144:u 144=.agg (rowE G t):=Option.some.inj s144
 have e145:u 145=.int .i64 (e:Int):=Option.some.inj s145
 have HK:=Hd2 hK hJ
 clear hK s0 s3 s6 s13 s14 s144 s145 hs
 rcases Nat.lt_or_ge e 6 with he6 | he6
 ·obtain⟨k,hk⟩:∃k,k=eN G (6*t+e):=⟨_,rfl⟩
  have hkn:k<nE G:=by rw[hk];exact eN_lt' HC.out.1 (by omega)
  have hmk:=hJ.met.cell hkn
  have fmk:=hJ.met.frozen k
  have hix:=fun w=>P162_index (rowE G t) e _ (rowE_get G t e he6) he6 w
  rw[←hk] at hix
  have hkk:=Lib.hid hk
  have k0:0≤(k:Int):=by omega
  have kn:(k:Int)<(nE G:Int):=by omega
  cases hmet:metB G (6*t+e) k with
  | true=>
   have hm2:=Lib.hid hmet
   rw[hmet] at hmk
   clear hJ hk hmet
   go_wp2
   obtain⟨hK,hJ⟩:=HK.out
   have hsk:ringsTo G f g sh (6*t+e+1):=ringsTo_skip hJ.rings (by rw[←hkk.out];exact hm2.out)
   refine⟨6-(e+1),by omega,e+1,by omega,rfl,hK.trans ⟨rfl,congrArg some e0.symm,congrArg some e3.symm,congrArg some e6.symm,congrArg some e13.symm,rfl,rfl,rfl⟩,by simp,hJ.bel,hJ.met.congr (fun j hj=>?_),hJ.marks,hsk⟩
   rw[show 6*t+(e+1)=6*t+e+1 by omega,metB_succ]
   by_cases h:eN G (6*t+e)=j
   ·rw[←h,←hkk.out,hm2.out];rfl
   ·simp[h]
  | false=>
   have hm2:=Lib.hid hmet
   rw[hmet] at hmk
   clear hmet
   have h26:JW W0 (W.setCell ⟨M,k,none⟩ (.bool true)) M N0 ds' G f g sh (6*t+e)∨True:=.inr trivial
   have hg26:=za1 W M k (.bool true)
   have b26:Below W0.heap.size W0 (W.setCell ⟨M,k,none⟩ (.bool true)):=hJ.bel.setCell hM _
   have m26:(W.setCell ⟨M,k,none⟩ (.bool true)).rowIs M 4 (nE G) (fun j=>.bool (metB G (6*t+(e+1)) j)):=(hJ.met.set k _).congr (fun j hj=>by
    rw[show 6*t+(e+1)=6*t+e+1 by omega,metB_succ,←hk]
    by_cases h:j=k
    ·simp[h]
    ·have:(k==j)=false:=by simp;omega
     simp[h,this])
   have k26:Marks ds' (W.setCell ⟨M,k,none⟩ (.bool true)) N0:=hJ.marks.kept (fun r _ hr=>(hg26.block r (Array.getElem?_eq_some_iff.1 hr).1 (fun q=>by
    cases q
    obtain⟨c,hc,_⟩:=hJ.met
    rw[hc] at hr;cases hr)).trans hr)
   have cX:(W.setCell ⟨M,k,none⟩ (.bool true)).drew.cell? ⟨X,0,none⟩=some v:=(b26.cell (p:=⟨X,0,none⟩) HC.out.2.1.sp.lt).trans HC.out.2.1.sp.c0
   have lX:X<(W.setCell ⟨M,k,none⟩ (.bool true)).drew.heap.size:=za0 cX
   have H26:=Hd5 hg26 b26 m26 k26 hJ.rings
   have hF:=fun W=>frame_walk e he6 W
   have hRg:∀W,GlAt W.heap.size W v G→Calls Try.prog 117 #[.agg #[v],.int .i64 (t:Int),.agg #[.int .i64 (frC e 4 0:Nat),.int .i64 (frC e 4 1:Nat),.int .i64 (frC e 4 2:Nat),.int .i64 (frC e 4 3:Nat)]] W (RingAns G (frS t e) W):=fun W h=>Ring_walk HC.out.1 (frS_ok ht he6) v W h
   have HF:=Hd2 hF hRg
   clear hJ hk hg26 b26 m26 k26 hF hRg h26
   go_wp2
   generalize hW26:W.setCell ⟨M,k,none⟩ (.bool true)=W26 at *
   clear hW26
   go_region_held3 (fun w'=>w'.cell? ⟨X,0,none⟩=some v)
    (first
     | exact cX
     | exact (H1.out.cell (p:=⟨X,0,none⟩) (by exact lX)).trans cX
     | exact (H2.out.cell (p:=⟨X,0,none⟩) (by exact Nat.lt_of_lt_of_le lX H1.out.size)).trans ((H1.out.cell (p:=⟨X,0,none⟩) (by exact lX)).trans cX))
    (first
     |(go_at_call 118;(with_reducible refine (HF.out.1 _).mono ?_);rintro e1 w1 ⟨rfl,hb1⟩;have H1:=Lib.hid hb1;have hG1:GlAt w1.heap.size w1 v G:=(HC.out.2.2.2.2.1.below ((za5 H26.out.2.1).trans (hb1.mono H26.out.2.1.size))).mono (Nat.le_trans H26.out.2.1.size hb1.size);clear hb1)
     |(go_at_call 117;(with_reducible refine (HF.out.2 _ hG1).mono ?_);rintro e2 w2 ⟨hb2,rv,cl,rfl,hcl,hop⟩;have H2:=Lib.hid hb2;have H3:=Hd2 hcl hop;clear hb2 hcl hop))
   have hg2:W26.grownBy w2 none:=za2 (zb0 W26 none) (za2 (za6 H1.out (Nat.le_refl _) none) (za6 H2.out (Nat.le_refl _) none))
   have b2:Below W0.heap.size W0 w2:=H26.out.2.1.grown hg2 H26.out.2.1.size (fun k h=>by cases h)
   have m2:=za3 H26.out.2.2.1 hg2 (by simp)
   have k2:=H26.out.2.2.2.1.grown hg2
   have HJ:=Hd3 b2 m2 k2
   have cq:=(b2.cell (p:=⟨Bq,0,none⟩) (za0 HC.out.2.2.2.2.2)).trans HC.out.2.2.2.2.2
   clear hg2 b2 m2 k2
   cases cl with
   | false=>
    obtain⟨m,hm⟩:=H3.out.2 rfl
    have HO:=Lib.hid hm
    clear hm
    go_wp2
    exact⟨6-(e+1),by omega,e+1,by omega,rfl,HK.out.1.trans ⟨rfl,congrArg some e0.symm,congrArg some e3.symm,congrArg some e6.symm,congrArg some e13.symm,rfl,rfl,rfl⟩,by simp,HJ.out.1,HJ.out.2.1,HJ.out.2.2,ringsTo_succ he6 H26.out.2.2.2.2 (ring_open HO.out)⟩
   | true=>
    obtain⟨m,hm0,hm1,hmin,hown⟩:=H3.out.1 rfl
    obtain⟨ra,rp0,rfl⟩:=za8 hown
    have HO:=Hd4 hm0 hm1 hmin hown
    clear hm0 hm1 hmin hown H3
    go_wp2
    have hl:(pth G 2 (frS t e) m).length=m:=pth_len (ring_all HO.out.2.1)
    have hx:∀x∈pth G 2 (frS t e) m,Rok G.n x:=fun x hx=>by
     obtain⟨i,_,hi⟩:=List.mem_filterMap.1 hx
     exact zf7 HC.out.1 (frS_ok ht he6) hi
    have hml:=ring_len HC.out.1 (frS_ok ht he6) HO.out.2.1 HO.out.2.2.1
    have hbs:=HJ.out.1.size
    refine sheets_walk HC.out.1 (HC.out.2.1.below hBw HJ.out.1) (by omega) HC.out.2.2.1 HC.out.2.2.2.1 hsh hx (by rw[hl];omega) (K:=w1.heap.size) (rv:=.slice ra m rp0) (by rw[hl];exact HO.out.2.2.2) (Bq:=Bq) (N0:=N0) cq (by omega) _ _ rfl rfl rfl rfl rfl rfl HJ.out.2.2 ?_ ?_
    ·rintro tm2 ds2 W2 hK2 hM2 hb2 hgood
     obtain⟨u2,hu2,-⟩:=frame190 tm2 hK2.size
     simp only at hu2
     subst hu2
     have i0:u2 0=.pointer (some ⟨X,0,none⟩):=Option.some.inj hK2.k0
     have i3:u2 3=.pointer (some ⟨Bq,0,none⟩):=Option.some.inj hK2.k3
     have i6:u2 6=.pointer (some ⟨Cv,0,none⟩):=Option.some.inj hK2.k6
     have i13:u2 13=.slice (some ⟨M,0,none⟩) (nE G) (nE G):=Option.some.inj hK2.k13
     have i145:u2 145=.int .i64 (e:Int):=Option.some.inj hK2.k145
     have HK2:=Hd4 hK2 hM2 hb2 hgood
     clear hK2 hM2 hb2 hgood hml hbs hl hx
     go_wp2
     have hg3:=za6 HK2.out.2.2.1 (Nat.le_refl _) none
     refine⟨6-(e+1),by omega,e+1,by omega,rfl,HK.out.1.trans ⟨rfl,congrArg some (i0.trans e0.symm),congrArg some (i3.trans e3.symm),congrArg some (i6.trans e6.symm),congrArg some (i13.trans e13.symm),HK2.out.1.k137,HK2.out.1.k138,HK2.out.1.k139⟩,HK2.out.1.k14,HK2.out.1.k144,rfl,HJ.out.1.trans (HK2.out.2.2.1.mono HJ.out.1.size),za3 HJ.out.2.1 hg3 (by simp),HK2.out.2.1,ringsTo_succ he6 H26.out.2.2.2.2 (fun m' h0 h1 h2=>?_)⟩
     obtain rfl:=ring_uniq HO.out.1 h0 HO.out.2.1 HO.out.2.2.1 h1 h2
     have hgd:=HK2.out.2.2.2
     rw[pth_len (ring_all HO.out.2.1)] at hgd
     exact hgd
    ·rintro tm2 ds2 W2 hM2 hb2 ⟨i,hi,hbad⟩
     have hp:=HQ.out.2 tm2 ds2 W2 hM2 (HJ.out.1.trans (hb2.mono (by omega))) (fun hall=>by
      have hq2:firstE G (6*t+e):=metB_first.1 (by rw[←hkk.out];exact hm2.out)
      have hr:=hall (6*t+e) (by omega) hq2
      rw[show (6*t+e) / 6=t by omega,show (6*t+e) % 6=e by omega] at hr
      rw[hl] at hbad
      exact hbad (hr m HO.out.1 HO.out.2.1 HO.out.2.2.1 i hi))
     go_wp2
     exact hp
 ·obtain rfl:e=6:=by omega
  clear hJ
  go_wp2
  exact HQ.out.1 _ _ _ (HK.out.1.trans ⟨rfl,congrArg some e0.symm,congrArg some e3.symm,congrArg some e6.symm,congrArg some e13.symm,rfl,rfl,rfl⟩) HK.out.2
end
section
open Go.RowKit Go.Shelf Go.Maps
attribute [local go_sem] Oper.semAt_some
theorem of_seq {P:Program}{Q:Exit→Act→World→Prop}{a:Act}{w:World}{c b d:Code}(h:c=Code.seq b d)(hw:(Code.seq b d).wp P Q a w):c.wp P Q a w:=h▸hw
def kRows (f:Func):Code:=cIn (cR (cL (cR (kTail f))))
structure KpT (t t':Array Value):Prop where
 size:t'.size=190
 k0:t'[0]?=t[0]?
 k3:t'[3]?=t[3]?
 k6:t'[6]?=t[6]?
 k13:t'[13]?=t[13]?
 k137:t'[137]?=t[137]?
 k138:t'[138]?=t[138]?
theorem KpT.trans {a b c:Array Value}(h:KpT a b)(g:KpT b c):KpT a c:=
 ⟨g.size,g.k0.trans h.k0,g.k3.trans h.k3,g.k6.trans h.k6,g.k13.trans h.k13,g.k137.trans h.k137,g.k138.trans h.k138⟩
theorem rows_walk {G:Gl}(hok:za9 G=true){W0:World}{B Cv B' X mb:Nat}{v pv bv:Value}{vv ev tv lv:Value}{dB rB sh:Nat}{f g:Nat→Nat→Int}(hCV:CV W0 B Cv B' X mb v pv bv G vv ev tv lv dB rB sh f g)(hBw:B≤W0.heap.size)(hf:InSh (nF G) sh f)(hg:InSh (nF G) sh g)(hsh:sh≤24)
  (hGl:GlAt W0.heap.size W0 v G) {Bq M N0:Nat} (hq:W0.cell? ⟨Bq,0,none⟩=some (.int .i64 (sh:Int))) (hN0:N0≤W0.heap.size) (hM:W0.heap.size≤M)
  (tm:Array Value) (ds:List Deferred) (W:World) (hs:tm.size=190) (s0:tm[0]?=some (.pointer (some ⟨X,0,none⟩))) (s3:tm[3]?=some (.pointer (some ⟨Bq,0,none⟩))) (s6:tm[6]?=some (.pointer (some ⟨Cv,0,none⟩)))
  (s13:tm[13]?=some (.slice (some ⟨M,0,none⟩) (nE G) (nE G))) (s137:tm[137]?=some ev) (s138:tm[138]?=some (.int .i64 (G.n:Int))) (s139:tm[139]?=some (.int .i64 0)) (hJ:JW W0 W M N0 ds G f g sh 0) {Q:Exit→Act→World→Prop}
  (hdone:∀tm' ds' W',KpT tm tm'→JW W0 W' M N0 ds' G f g sh (6*G.n)→Q (.exit 6) { tmps:=tm',defers:=ds' } W')
  (hpan:∀tm' ds' W',Marks ds' W' N0→Below W0.heap.size W0 W'→¬ringsTo G f g sh (6*G.n)→Q (.panic [{ v:=noCov,recovered:=false }]) { tmps:=tm',defers:=ds' } W') :
  (kRows Try.f85).wp Try.prog Q { tmps:=tm,defers:=ds } W:=by
 refine of_loop rfl ?_
 have hn:G.n≤1000:=by simp only[za9,Bool.and_eq_true,decide_eq_true_eq] at hok;exact hok.1
 obtain⟨ga,cp,rfl⟩:=za8 hCV.sp.own
 have HQ:=Hd2 hdone hpan
 have HC:=Hd6 hok hCV hf hg hGl hq
 have HS:=Hd7 hs s0 s3 s6 s13 s137 s138
 clear hdone hpan hok hCV hf hg hGl hq
 refine wp_loop_ghost (fun n a W=>∃t:Nat,t≤G.n∧n=G.n-t∧KpT tm a.tmps∧a.tmps[139]?=some (.int .i64 (t:Int))∧JW W0 W M N0 a.defers G f g sh (6*t)) G.n ⟨0,by omega,rfl,⟨hs,rfl,rfl,rfl,rfl,rfl,rfl⟩,s139,hJ⟩ ?_
 clear s0 s3 s6 s13 s137 s138 s139 hs hJ
 rintro n ⟨tm',ds'⟩ W ⟨t,ht,rfl,hK,s139,hJ⟩
 obtain⟨hs,s0,s3,s6,s13,s137,s138⟩:=HS.out
 rw[←hK.k0] at s0
 rw[←hK.k3] at s3
 rw[←hK.k6] at s6
 rw[←hK.k13] at s13
 rw[←hK.k137] at s137
 rw[←hK.k138] at s138
 obtain⟨u,hu,-⟩:=frame190 tm' hK.size
 simp only at hu
 subst hu
 have e0:u 0=.pointer (some ⟨X,0,none⟩):=Option.some.inj s0
 have e3:u 3=.pointer (some ⟨Bq,0,none⟩):=Option.some.inj s3
 have e6:u 6=.pointer (some ⟨Cv,0,none⟩):=Option.some.inj s6
 have e13:u 13=.slice (some ⟨M,0,none⟩) (nE G) (nE G):=Option.some.inj s13
 have e137:u 137=.slice ga G.n cp:=Option.some.inj s137
 have e138:u 138=.int .i64 (G.n:Int):=Option.some.inj s138
 have e139:u 139=.int .i64 (t:Int):=Option.some.inj s139
 have HK:=Hd2 hK hJ
 clear hK s0 s3 s6 s13 s137 s138 s139 hs
 rcases Nat.lt_or_ge t G.n with htn | htn
 ·obtain⟨ge,ce,hgv,_,_⟩:=HC.out.2.1.sp.own.form (by omega)
  obtain⟨rfl,-,rfl⟩:ga=some ⟨ge,0,none⟩∧G.n=G.n∧cp=ce:=by simpa using hgv
  have rowc:∀j,j<6→W.cell? ⟨ge,t*6+j,none⟩=some (.int .i64 (eN G (6*t+j):Nat)):=fun j hj=>by
   have:=HC.out.2.1.sp.own.cells (g:=ge) rfl (6*t+j) _ (ints_get (eN G) (6*G.n) (6*t+j) (by omega))
   rw[Addr.add_mid,Nat.zero_add] at this
   rw[show t*6+j=6*t+j by omega]
   exact (hJ.bel.cell (p:=⟨ge,6*t+j,none⟩) (za0 this)).trans this
  have r0:=rowc 0 (by omega)
  have r1:=rowc 1 (by omega)
  have r2:=rowc 2 (by omega)
  have r3:=rowc 3 (by omega)
  have r4:=rowc 4 (by omega)
  have r5:=rowc 5 (by omega)
  rw[Nat.add_zero] at r0
  rw[Nat.add_zero] at r0
  have t0:0≤(t:Int):=by omega
  have tn:(t:Int)<(G.n:Int):=by omega
  clear rowc hJ hgv
  go_wp2
  have hal:=World.grownBy_alloc W (.cells #[.int .i64 (eN G (6*t):Nat),.int .i64 (eN G (6*t+1):Nat),.int .i64 (eN G (6*t+2):Nat),.int .i64 (eN G (6*t+3):Nat),.int .i64 (eN G (6*t+4):Nat),.int .i64 (eN G (6*t+5):Nat)] 162) none
  have hJ:=HK.out.2
  have hJa:JW W0 (W.alloc (.cells #[.int .i64 (eN G (6*t):Nat),.int .i64 (eN G (6*t+1):Nat),.int .i64 (eN G (6*t+2):Nat),.int .i64 (eN G (6*t+3):Nat),.int .i64 (eN G (6*t+4):Nat),.int .i64 (eN G (6*t+5):Nat)] 162)) M N0 ds' G f g sh (6*t):=
   ⟨hJ.bel.grown hal hJ.bel.size (fun k h=>by cases h),za3 hJ.met hal (by simp),hJ.marks.grown hal,hJ.rings⟩
  refine row_walk HC.out.1 HC.out.2.1 hBw HC.out.2.2.1 HC.out.2.2.2.1 hsh HC.out.2.2.2.2.1 HC.out.2.2.2.2.2 hN0 hM htn _ _ _ rfl rfl rfl rfl rfl rfl rfl rfl hJa ?_ ?_
  ·rintro tm2 ds2 W2 hK2 hJ2
   obtain⟨u2,hu2,-⟩:=frame190 tm2 hK2.size
   simp only at hu2
   subst hu2
   have i0:u2 0=.pointer (some ⟨X,0,none⟩):=Option.some.inj hK2.k0
   have i3:u2 3=.pointer (some ⟨Bq,0,none⟩):=Option.some.inj hK2.k3
   have i6:u2 6=.pointer (some ⟨Cv,0,none⟩):=Option.some.inj hK2.k6
   have i13:u2 13=.slice (some ⟨M,0,none⟩) (nE G) (nE G):=Option.some.inj hK2.k13
   have i137:u2 137=.slice (some ⟨ge,0,none⟩) G.n cp:=Option.some.inj hK2.k137
   have i138:u2 138=.int .i64 (G.n:Int):=Option.some.inj hK2.k138
   have i139:u2 139=.int .i64 (t:Int):=Option.some.inj hK2.k139
   have HJ2:=Lib.hid hJ2
   clear hK2 hJ2 hJ hJa hal
   go_wp2
   exact⟨G.n-(t+1),by omega,t+1,by omega,rfl,HK.out.1.trans ⟨rfl,congrArg some (i0.trans e0.symm),congrArg some (i3.trans e3.symm),congrArg some (i6.trans e6.symm),congrArg some (i13.trans e13.symm),congrArg some (i137.trans e137.symm),congrArg some (i138.trans e138.symm)⟩,rfl,HJ2.out⟩
  ·rintro tm2 ds2 W2 hM2 hb2 hbad
   have hp:=HQ.out.2 tm2 ds2 W2 hM2 hb2 hbad
   go_wp2
   exact hp
 ·obtain rfl:t=G.n:=by omega
  clear hJ
  go_wp2
  exact HQ.out.1 _ _ _ (HK.out.1.trans ⟨rfl,congrArg some e0.symm,congrArg some e3.symm,congrArg some e6.symm,congrArg some e13.symm,congrArg some e137.symm,congrArg some e138.symm⟩) HK.out.2
theorem tail_walk {G:Gl}(hok:za9 G=true){W0:World}{B Cv B' X mb:Nat}{v pv bv:Value}{vv ev tv lv:Value}{dB rB sh:Nat}{f g:Nat→Nat→Int}(hCV:CV W0 B Cv B' X mb v pv bv G vv ev tv lv dB rB sh f g)(hBw:B≤W0.heap.size)(hf:InSh (nF G) sh f)(hg:InSh (nF G) sh g)(hsh:sh≤24)
  (hGl:GlAt W0.heap.size W0 v G) {Bq:Nat} (hq:W0.cell? ⟨Bq,0,none⟩=some (.int .i64 (sh:Int)))
  (tm:Array Value) (hs:tm.size=190) (s0:tm[0]?=some (.pointer (some ⟨X,0,none⟩))) (s3:tm[3]?=some (.pointer (some ⟨Bq,0,none⟩))) (s6:tm[6]?=some (.pointer (some ⟨Cv,0,none⟩))) {R:Ending→World→Prop}
  (hret:∀W',Below W0.heap.size W0 W'→ringsTo G f g sh (6*G.n)→R (.returned (.pointer (some ⟨Cv,0,none⟩))) W')
  (hpan:∀W',Below W0.heap.size W0 W'→¬ringsTo G f g sh (6*G.n)→R (.panicked [{ v:=noCov,recovered:=false }]) W') :
  (kTail Try.f85).wp Try.prog (bodyPostM Fence.wide 6 Try.prog Try.f85 R) { tmps:=tm,defers:=[] } W0:=by
 have hn:G.n≤1000:=by simp only[za9,Bool.and_eq_true,decide_eq_true_eq] at hok;exact hok.1
 have hsz:nE G≤6000:=by have:=zg7 (zb5 G).r3 (6*G.n);unfold nE;omega
 obtain⟨ga,cp,rfl⟩:=za8 hCV.sp.own
 have x4:=hCV.sp.c4
 have x2:=hCV.sp.c2
 obtain⟨u,hu,-⟩:=frame190 tm hs
 simp only at hu
 subst hu
 have e0:u 0=.pointer (some ⟨X,0,none⟩):=Option.some.inj s0
 have e3:u 3=.pointer (some ⟨Bq,0,none⟩):=Option.some.inj s3
 have e6:u 6=.pointer (some ⟨Cv,0,none⟩):=Option.some.inj s6
 clear s0 s3 s6 hs
 have hmk:=run_make_row' (P:=Try.prog) 51 4 (.bool false) 1 und51 info4 rfl .i64 .i64 (nE G) (by omega) (by omega)
 have x2a:∀o,(W0.alloc o).cell? ⟨X,2,none⟩=some (.slice ga G.n cp):=fun o=>za4 x2 o
 have HQ:=Hd2 hret hpan
 have HC:=Hd6 hok hCV hf hg hGl hq
 clear hret hpan hok hCV hf hg hGl hq
 refine of_seq rfl ?_
 go_wp2
 obtain⟨M,hM⟩:∃M,M=W0.heap.size:=⟨_,rfl⟩
 rw[←hM]
 clear hmk
 refine zb3 fun W1 hW=>?_
 have hal:=World.grownBy_alloc W0 (.cells (madeCells #[.bool false] (nE G)) 4) none
 have b1:Below W0.heap.size W0 W1:=by rw[hW];exact (Below.refl _ _).alloc (Nat.le_refl _) _
 have m1:W1.rowIs M 4 (nE G) (fun j=>.bool (metB G 0 j)):=by rw[hW,hM];exact (World.rowIs_made W0 (.bool false) (nE G) 4).congr (fun j _=>rfl)
 clear hW hal
 refine rows_walk HC.out.1 HC.out.2.1 hBw HC.out.2.2.1 HC.out.2.2.2.1 hsh HC.out.2.2.2.2.1 HC.out.2.2.2.2.2 (N0:=W0.heap.size) (Nat.le_refl _) (Nat.le_of_eq hM.symm) _ _ _ rfl (congrArg some e0) (congrArg some e3) (congrArg some e6) rfl rfl rfl rfl ⟨b1,m1,Marks.nil _ _,fun q hq=>by omega⟩ ?_ ?_
 ·rintro tm2 ds2 W2 hK2 hJ2
  obtain⟨u2,hu2,-⟩:=frame190 tm2 hK2.size
  simp only at hu2
  subst hu2
  have i6:u2 6=.pointer (some ⟨Cv,0,none⟩):=(Option.some.inj hK2.k6).trans e6
  have HJ2:=Lib.hid hJ2
  clear hK2 hJ2
  go_wp2
  refine HJ2.out.marks.leaves (by simp) HJ2.out.bel.size (fun W' hb'=>⟨.pointer (some ⟨Cv,0,none⟩),?_,HQ.out.1 W' (HJ2.out.bel.trans hb') HJ2.out.rings⟩)
  simp[results,Try.f85,go_sem,i6]
 ·rintro tm2 ds2 W2 hM2 hb2 hbad
  exact hM2.leaves (by simp) hb2.size (fun W' hb'=>HQ.out.2 W' (hb2.trans hb') hbad)
end
section
open Go.RowKit Go.Shelf
@[irreducible] def wpSt (P:Program) (ops:Array Oper) (w:World) (Q:Act→Prop) (l:List Oper) (a:Act):Prop:=wpStill P ops w Q l a
theorem wpSt_out {P:Program}{ops:Array Oper}{w:World}{Q:Act→Prop}{l:List Oper}{a:Act}(h:wpSt P ops w Q l a):wpStill P ops w Q l a:=by
 unfold wpSt at h;exact h
theorem wpSt_in {P:Program}{ops:Array Oper}{w:World}{Q:Act→Prop}{l:List Oper}{a:Act}(h:wpStill P ops w Q l a):wpSt P ops w Q l a:=by
 unfold wpSt;exact h
theorem wpSt_nil {P:Program}{ops:Array Oper}{w:World}{Q:Act→Prop}{a:Act}(h:Q a):wpSt P ops w Q [] a:=wpSt_in h
theorem zg0 {P:Program}{ops:Array Oper}{w:World}{Q:Act→Prop}{a:Act}{o:Oper}{rest:List Oper}(h:∀K:Act→Prop,(∀a,wpSt P ops w Q rest a→K a)→if Region.wanted o (yielded ops a.tmps) then o.still P a w K else K (a.put o.dst undef)):wpSt P ops w Q (o :: rest) a:=
 wpSt_in (h _ fun _ h=>wpSt_out h)
theorem zd8 {P:Program}{id:Nat}{Q:Exit→Act→World→Prop}{a:Act}{w:World}{l:List Oper}(n:Nat)(hm:P.follows .mixedOrders=true)(hB:Region.lexTailB .any l.toArray n=true)
  (h:∀Q2:Act→Prop,(∀a',wpList P l.toArray Q (l.drop n) a' w.drew→Q2 a')→wpSt P l.toArray w.drew Q2 (l.take n) a):(Code.region id l.toArray true).wp P Q a w:=zc1 n hm hB (wpSt_out (h _ fun _ h=>h))
end
end Go.Proofs.Ytlckpgahijlmoaa
