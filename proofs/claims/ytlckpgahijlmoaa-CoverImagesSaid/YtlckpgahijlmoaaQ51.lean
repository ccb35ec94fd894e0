/- group's crossings. -/
import Derived.Test.YtlckpgahijlmoaaQ46
import Derived.Test.YtlckpgahijlmoaaQ37
import Derived.WideKeyEntry
set_option maxRecDepth 100000
set_option maxHeartbeats 8000000
namespace Go.Proofs.Ytlckpgahijlmoaa
section
open Go.RowKit Go.Shelf Go.Maps Go.MapKept
open Go.ChangeMaps (setBlock modify_eq_set)
section
variable {α β:Type}{W:World}{k t e:TypeId}{ok:α→Prop}{κ:α→Value}{ν:β→Value}{b n:Nat}{D:α→Option β}
variable [DecidableEq α]
theorem MapIs.entry (h:MapIs W k ok κ ν b n D)(C:Codes k ok κ)(ht:Try.prog.underlying t=some (.map k e)){z:Value}(hz:∀u:World,(zeroValue e).run Try.prog u=.ok z u)(a:α)(ha:ok a)(v:β) :
  ∃(v0:Value) (st:Nat) (W1:World),(Instr.mapEntry t (.map (some b)) (κ a)).run Try.prog W=.ok (.tuple #[v0,.int .i64 (st:Int)]) W1∧W.grownBy W1 (some b)∧W1.heap.size=W.heap.size ∧
   ∀W2:World,W2.heap[b]?=W1.heap[b]?→∃W3,(Instr.entryStore t (.map (some b)) (.int .i64 (st:Int)) (ν v)).run Try.prog W2=.ok () W3 ∧
    MapIs W3 k ok κ ν b (if (D a).isSome then n else n+1) (fun x=>if x=a then some v else D x)∧W2.grownBy W3 (some b)∧W3.heap.size=W2.heap.size:=by
 obtain⟨WU,hU,hM,-,-⟩:=h.update C ht a ha v
 obtain⟨es,clock,hb,hn,hst,h1,h2⟩:=h.ex
 obtain⟨l,hl⟩:=C.key a ha
 have hkeys:∀x∈es.toList,∃l,keyOf Try.prog k x.key=some l:=fun x hx=>by
  obtain⟨a,c,e1,_,_,e4⟩:=h1 x hx
  rw[e1];exact C.key a e4
 have gr:∀(W:World) (es:Array MapEntry) (clock:Nat) (hb:W.heap[b]?=some (.map es clock)) (o:Obj),W.grownBy (setBlock W b o) (some b):=fun W es clock hb o=>⟨rfl,rfl,rfl,by simp[setBlock],fun i _ hi=>Go.ChangeMaps.heap_setBlock_other hb _ (fun e=>hi (by rw[e]))⟩
 obtain⟨s1,s2,-⟩:=(stamped_iff es clock).1 hst
 rcases C.K.find W hl es.toList hkeys with ⟨r1,r2⟩ | ⟨j,e0,r1,r2,r3⟩
 ·have hUe:WU=setBlock W b (.map (es.push ⟨κ a,ν v,clock⟩) (clock+1)):=by
   have:(Instr.mapUpdate t (.map (some b)) (κ a) (ν v)).run Try.prog W=.ok () (setBlock W b (.map (es.push ⟨κ a,ν v,clock⟩) (clock+1))):=by
    simp[Instr.mapUpdate,run_underlying ht,MapKept.run_getObj_map hb,C.K.check W false hl,r1,MapKept.run_setObj_map _ hb,Result.andThen,setBlock]
   rw[hU] at this;injection this
  refine⟨z,clock,setBlock W b (.map (es.push ⟨κ a,z,clock⟩) (clock+1)),?_,gr W es clock hb _,by simp[setBlock],fun W2 hW2=>?_⟩
  ·simp[Instr.mapEntry,run_underlying ht,MapKept.run_getObj_map hb,C.K.check W false hl,r1,hz,MapKept.run_setObj_map _ hb,Result.andThen,setBlock,goInt]
  ·have hw2:W2.heap[b]?=some (.map (es.push ⟨κ a,z,clock⟩) (clock+1)):=hW2.trans (Go.ChangeMaps.heap_setBlock_same hb _)
   refine⟨setBlock W2 b (.map (es.push ⟨κ a,ν v,clock⟩) (clock+1)),?_,hM.of_block ?_,gr W2 _ _ hw2 _,by simp[setBlock]⟩
   ·have hidx:(es.push ⟨κ a,z,clock⟩).findIdx? (fun e=>((e.born:Nat):Int)==((clock:Nat):Int))=some es.size:=by
     rw[Go.WideElems.findIdx_arr]
     exact Go.WideElems.findIdx_born (l:=(es.push ⟨κ a,z,clock⟩).toList) (j:=es.size) (e0:=⟨κ a,z,clock⟩) (by
      simp only[Array.toList_push,List.map_append,List.map_cons,List.map_nil]
      refine List.nodup_append.2 ⟨s2,by simp,fun a ha c hc e1=>?_⟩
      simp only[List.mem_singleton] at hc
      obtain⟨x,hx,rfl⟩:=List.mem_map.1 ha
      have:=s1 x hx
      omega) (by simp)
    have hmod:(es.push ⟨κ a,z,clock⟩).modify es.size (fun e=>{ e with val:=ν v })=es.push ⟨κ a,ν v,clock⟩:=by
     apply Array.ext'
     rw[Array.toList_modify,Array.toList_push,Array.toList_push,←Array.length_toList,Go.WideElems.modify_last]
    simp[Instr.entryStore,MapKept.run_getObj_map hw2,asInt,asIntOf,hidx,hmod,MapKept.run_setObj_map _ hw2,Result.andThen,setBlock]
   ·rw[hUe,Go.ChangeMaps.heap_setBlock_same hw2,Go.ChangeMaps.heap_setBlock_same hb]
 ·have hj:es[j]?=some e0:=by simpa using r2
  have hUe:WU=setBlock W b (.map (es.modify j (fun e'=>{ e' with key:=κ a,val:=ν v })) clock):=by
   have:(Instr.mapUpdate t (.map (some b)) (κ a) (ν v)).run Try.prog W=.ok () (setBlock W b (.map (es.modify j (fun e'=>{ e' with key:=κ a,val:=ν v })) clock)):=by
    simp[Instr.mapUpdate,run_underlying ht,MapKept.run_getObj_map hb,C.K.check W false hl,r1,hj,r3,C.K.stays W hl,MapKept.run_setObj_map _ hb,Result.andThen,setBlock]
   rw[hU] at this;injection this
  have hsame:es.modify j (fun e=>{ e with key:=κ a })=es:=by
   apply Array.ext'
   rw[Array.toList_modify,modify_eq_set _ _ _ _ r2]
   have:({ e0 with key:=κ a }:MapEntry)=e0:=by rw[←r3]
   rw[this]
   exact Go.WideElems.set_self _ _ _ r2
  refine⟨e0.val,e0.born,setBlock W b (.map es clock),?_,gr W es clock hb _,by simp[setBlock],fun W2 hW2=>?_⟩
  ·simp[Instr.mapEntry,run_underlying ht,MapKept.run_getObj_map hb,C.K.check W false hl,r1,hj,r3,C.K.stays W hl,hsame,MapKept.run_setObj_map _ hb,Result.andThen,setBlock,goInt]
  ·have hw2:W2.heap[b]?=some (.map es clock):=hW2.trans (Go.ChangeMaps.heap_setBlock_same hb _)
   refine⟨setBlock W2 b (.map (es.modify j (fun e'=>{ e' with key:=κ a,val:=ν v })) clock),?_,hM.of_block ?_,gr W2 _ _ hw2 _,by simp[setBlock]⟩
   ·have hidx:es.findIdx? (fun e=>((e.born:Nat):Int)==((e0.born:Nat):Int))=some j:=by
     rw[Go.WideElems.findIdx_arr];exact Go.WideElems.findIdx_born s2 r2
    have hmod:es.modify j (fun e'=>{ e' with val:=ν v })=es.modify j (fun e'=>{ e' with key:=κ a,val:=ν v }):=by
     apply Array.ext'
     rw[Array.toList_modify,Array.toList_modify,modify_eq_set _ _ _ _ r2,modify_eq_set _ _ _ _ r2]
     rw[←r3]
    simp[Instr.entryStore,MapKept.run_getObj_map hw2,asInt,asIntOf,hidx,hmod,MapKept.run_setObj_map _ hw2,Result.andThen,setBlock]
   ·rw[hUe,Go.ChangeMaps.heap_setBlock_same hw2,Go.ChangeMaps.heap_setBlock_same hb]
end
structure GL2 (w W:World)(N O n:Nat)(v:Value)(tr:Nat→Bool)(o:Nat→Int):Prop where
 tree:∃nn,MapIs W 82 okp kp Value.bool (N+1) nn (trD tr)
 out:W.rowIs O 84 (4*n) (fun k=>.int .i64 (o k))
 c0:W.cell? ⟨N,0,none⟩=some v
 bel:Below N w W
 lo:N+1<O
section
variable {w W W':World}{N O n:Nat}{v:Value}{tr:Nat→Bool}{o:Nat→Int}
theorem GL2.kept (hq:GL2 w W N O n v tr o)(hg:W.grownBy W' none):GL2 w W' N O n v tr o:=by
 obtain⟨nn,hm⟩:=hq.tree
 exact⟨⟨nn,hm.kept hg (by simp)⟩,za3 hq.out hg (by simp),hg.cell hq.c0 (by simp),hq.bel.grown hg (by have:=za0 hq.c0;simp only at this;omega) (fun k e=>by cases e),hq.lo⟩
theorem GL2.put (hq:GL2 w W N O n v tr o)(j:Nat)(x:Int):GL2 w (W.setCell ⟨O,j,none⟩ (.int .i64 x)) N O n v tr (fun k=>if k=j then x else o k):=by
 have hg:=za1 W O j (.int .i64 x)
 have hl:=hq.lo
 obtain⟨nn,hm⟩:=hq.tree
 refine⟨⟨nn,hm.kept hg (by simp;omega)⟩,?_,hg.cell hq.c0 (by simp;omega),hq.bel.setCell (by show N≤O;omega) _,hl⟩
 exact (hq.out.set j _).congr (fun i _=>by by_cases e:i=j<;>simp[e])
theorem GL2.congr {o':Nat→Int}(hq:GL2 w W N O n v tr o)(e:∀k,k<4*n→o k=o' k):GL2 w W N O n v tr o':=
 ⟨hq.tree,hq.out.congr (fun k hk=>by rw[e k hk]),hq.c0,hq.bel,hq.lo⟩
end
end
section
open Go.RowKit Go.Shelf Go.Maps
theorem frame136 (tm:Array Value)(h:tm.size=136):∃u:Nat→Value,tm=#[u 0,u 1,u 2,u 3,u 4,u 5,u 6,u 7,u 8,u 9,u 10,u 11,u 12,u 13,u 14,u 15,u 16,u 17,u 18,u 19,u 20,u 21,u 22,u 23,u 24,u 25,u 26,u 27,u 28,u 29,u 30,u 31,u 32,u 33,u 34,u 35,u 36,u 37,u 38,u 39,u 40,u 41,u 42,u 43,u 44,u 45,u 46,u 47,u 48,u 49,u 50,u 51,u 52,u 53,u 54,u 55,u 56,u 57,u 58,u 59,u 60,u 61,u 62,u 63,u 64,u 65,u 66,u 67,u 68,u 69,u 70,u 71,u 72,u 73,u 74,u 75,u 76,u 77,u 78,u 79,u 80,u 81,u 82,u 83,u 84,u 85,u 86,u 87,u 88,u 89,u 90,u 91,u 92,u 93,u 94,u 95,u 96,u 97,u 98,u 99,u 100,u 101,u 102,u 103,u 104,u 105,u 106,u 107,u 108,u 109,u 110,u 111,u 112,u 113,u 114,u 115,u 116,u 117,u 118,u 119,u 120,u 121,u 122,u 123,u 124,u 125,u 126,u 127,u 128,u 129,u 130,u 131,u 132,u 133,u 134,u 135]∧∀i,i<136→tm[i]?=some (u i):=by
 refine⟨fun i=>tm.getD i undef,(range_getD tm 136 h).trans rfl,fun i hi=>?_⟩
 simp[Array.getElem?_eq_getElem (show i<tm.size by omega)]
theorem wpAnyU_named {P:Program}{md:Region.Mode}{ops:Array Oper}{Q:Exit→Act→World→Prop}{S:World→Prop}{L fuel:Nat}{ls:Array Bool}{a:Act}{w:World}(h:∀W,W=w→wpAnyU P md ops Q S L fuel ls a W):wpAnyU P md ops Q S L fuel ls a w:=h w rfl
def kSecond (f:Func):Code:=cR (cR (cR (cR (cR (f.body.getD .skip)))))
theorem cross_second (G:Gl)(hok:za9 G=true)(v:Value)(w W:World)(N:Nat)(hN:N=w.heap.size)(hG:GlAt N w v G)(hTr:∃nn,MapIs W 82 okp kp Value.bool (N+1) nn (trD (treeB G)))(hc0:W.cell? ⟨N,0,none⟩=some v)(hbel:Below N w W)
  (tm:Array Value) (hsz:tm.size=136) (s1:tm[1]?=some (.pointer (some ⟨N,0,none⟩))) (s4:tm[4]?=some (.map (some (N+1)))) :
  (kSecond Try.f75).wp Try.prog (bodyPost Try.prog Try.f75 fun e w'=>∃o,e=.returned (.tuple #[.slice (some ⟨o,0,none⟩) G.n G.n,.int .i64 (gnN G (4*G.n):Nat)])∧w'.rowIs o 84 (4*G.n) (fun k=>.int .i64 (ltrI G k))∧N≤o∧Below N w w') { tmps:=tm,defers:=[] } W:=by
 refine of_seq rfl ?_
 have hn:G.n≤1000:=zg5 hok
 have HG:=Hd2 hok hG
 obtain⟨a,cap,rfl⟩:∃a cap,v=.slice a G.n cap:=by obtain⟨a,_,_,cap,e,_⟩:=hG;exact⟨a,cap,e⟩
 obtain⟨n,hne⟩:∃n,n=G.n:=⟨_,rfl⟩
 rw[←hne] at hn hc0 ⊢
 have HNN:=Hd2 hN hne
 have hmk1:∀w,(Instr.makeSlice 49 (.int .i64 (n:Int)) (.int .i64 (n:Int))).run Try.prog w=.ok (.slice (some ⟨w.heap.size,0,none⟩) n n) (w.alloc (.cells (madeCells #[.int .i64 0,.int .i64 0,.int .i64 0,.int .i64 0] (n*4)) 84)):=run_make_rowc (P:=Try.prog) 49 84 _ 4 32 und49 info84 n (by omega) (by omega)
 obtain⟨u,hu,-⟩:=frame136 tm hsz
 subst hu
 have e1:u 1=.pointer (some ⟨N,0,none⟩):=Option.some.inj s1
 have e4:u 4=.map (some (N+1)):=Option.some.inj s4
 have HT:=Hd3 hTr hc0 hbel
 have hNl:N<W.heap.size:=za0 hc0
 have hN1:N+1<W.heap.size:=by obtain⟨nn,h⟩:=hTr;exact h.lt
 clear hok hG hne s1 s4 hTr hbel hN
 have c0a:=za4 (o:=.cells (madeCells #[.int .i64 0,.int .i64 0,.int .i64 0,.int .i64 0] (n*4)) 84) hc0
 obtain⟨O,hO⟩:∃O,O=W.heap.size:=⟨_,rfl⟩
 go_wp2
 rw[←hO]
 refine zb3 fun W1 hW=>?_
 have hL:GL2 w W1 N O n (.slice a n cap) (treeB G) (ltrK G 0):=by
  obtain⟨⟨nn,hm⟩,h2,h3⟩:=HT.out
  have hal:=World.grownBy_alloc W (.cells (madeCells #[.int .i64 0,.int .i64 0,.int .i64 0,.int .i64 0] (n*4)) 84) none
  rw[hW]
  refine⟨⟨nn,hm.kept hal (by simp)⟩,?_,hal.cell h2 (by simp),h3.grown hal (by omega) (fun r e=>by cases e),by omega⟩
  rw[hO]
  exact (made4 W (.int .i64 0) n 84).congr (fun k _=>by rw[ltrK_zero])
 have HL:=Lib.hid hL
 have c0:=hL.c0
 have hNO:N+1<O:=hL.lo
 clear hL hW c0a hc0 hmk1 hO hNl hN1 HT
 try clear c0
 go_loopw [11,83] (fun m i wz=>∃t:Nat,t≤n∧i=.int .i64 t∧m=.int .i64 (gnN G (4*t):Nat)∧GL2 w wz N O n (.slice a n cap) (treeB G) (ltrK G (4*t))) (fun _ i _=>n-(intOf i).toNat)
 case atStart=>exact⟨0,by omega,rfl,rfl,HL.out⟩
 case round=>
  clear HL
  obtain⟨t,ht,rfl,rfl,hL⟩:=hrel
  have HL:=Lib.hid hL
  rcases Nat.lt_or_ge t n with htn | htn
  ·obtain⟨_,b,off,_,hve,hga,hgc⟩:=HG.out.2
   simp only[Value.slice.injEq,true_and] at hve
   obtain⟨hva,hvc⟩:=hve
   obtain⟨hN2,hne2⟩:=HNN.out
   obtain⟨hab,hbB⟩:=hga (by omega)
   rw[hab] at hva
   subst hva
   have hrow:zb9 wr b (off+t*20) G t:=by
    have:=ze5 (W:=w) hgc t (by omega)
    intro jj hjj
    rw[←this jj hjj]
    exact hL.bel.cell (p:=⟨b,off+t*20+jj,none⟩) (by exact hbB)
   have hrg:=hrow.range
   have hrg2:(wr.alloc (.cells (rowA G t) 88)).rangeAt wr.heap.size 0 (rowA G t).toList:=by
    have:zb9 (wr.alloc (.cells (rowA G t) 88)) wr.heap.size 0 G t:=fun j hj=>by rw[Nat.zero_add];exact World.cell?_alloc_at _ _ _ _ rfl
    exact this.range
   have t0:0≤(t:Int):=by omega
   have tn:(t:Int)<(n:Int):=by omega
   clear hL hga hgc hvc hN2 hne2 hab hbB hrow
   go_wp2_with (first|(refine zb8 rfl 88 (.tmp 86) rfl b (off+t*20) rfl (rowA G t) _ hrg Try.underlying88 rfl (by kernel_rfl) ?_)|(refine zc2 (w:=wr) rfl 88 (.tmp 13) (.tmp 87) rfl _ (rowA G t) rfl rfl (by kernel_rfl) rfl (zf9 G t) ?_)|(refine zb8 rfl 88 (.tmp 13) rfl wr.heap.size 0 rfl (rowA G t) _ hrg2 Try.underlying88 rfl (by kernel_rfl) ?_))
   refine zb3 fun W1 hW=>?_
   have h1:GL2 w W1 N O n (.slice (some ⟨b,off,none⟩) n cap) (treeB G) (ltrK G (4*t)):=by rw[hW];exact HL.out.kept (World.grownBy_alloc _ _ _)
   have H1:=Lib.hid h1
   clear h1 hW hrg hrg2 HL
   go_loopw [11,89] (fun m i wz=>∃f:Nat,f≤4∧i=.int .i64 f∧m=.int .i64 (gnN G (4*t+f):Nat)∧GL2 w wz N O n (.slice (some ⟨b,off,none⟩) n cap) (treeB G) (ltrK G (4*t+f))) (fun _ i _=>4-(intOf i).toNat)
   case atStart=>exact⟨0,by omega,rfl,rfl,H1.out⟩
   case round=>
    clear H1
    obtain⟨f,hf,rfl,rfl,hL⟩:=hrel
    have HL:=Lib.hid hL
    rcases Nat.lt_or_ge f 4 with hf4 | hf4
    ·have hix:=fun w=>ze2 G t f hf4 w
     unfold faceA at hix
     have hkk:4*t+f<4*G.n:=by have:=HNN.out.2;omega
     have hgl:=gnN_le G (4*t+f)
     obtain⟨gn,hgn⟩:∃gn,gn=gnN G (4*t+f):=⟨_,rfl⟩
     rw[←hgn] at hgl ⊢
     have HGN:=Lib.hid hgn
     obtain⟨T,hT⟩:∃T,T=G.tet (4*t+f):=⟨_,rfl⟩
     rw[←hT] at hix
     have HTT:=Lib.hid hT
     have skip:genB G (4*t+f)=false→∀W,GL2 w W N O n (.slice (some ⟨b,off,none⟩) n cap) (treeB G) (ltrK G (4*t+f))→gnN G (4*t+(f+1))=gn∧GL2 w W N O n (.slice (some ⟨b,off,none⟩) n cap) (treeB G) (ltrK G (4*t+(f+1))):=fun hg W h=>
      ⟨by rw[HGN.out];show (if genB G (4*t+f)=true then _ else _)=_;rw[hg];rfl,h.congr (fun k _=>(ltrK_skip HG.out.1 hg k).symm)⟩
     have HSK:=Lib.hid skip
     clear hgn hT skip
     rcases Int.lt_or_le T 0 with hT0 | hT0
     ·have q1:decide (0≤T)=false:=by simp;omega
      clear hL
      go_wp2
      have hg:genB G (4*t+f)=false:=by
       cases hb:genB G (4*t+f) with
       | false=>rfl
       | true=>have:=(zd7.1 hb).1;rw[←HTT.out] at this;omega
      obtain⟨g1,g2⟩:=HSK.out hg _ (HL.out.kept (World.grownBy_alloc _ _ _))
      exact⟨⟨f+1,by omega,by simp,by rw[g1],g2⟩,by simp[intOf];omega⟩
     ·obtain⟨e1,e2,e3⟩:=zc6 HG.out.1 hkk (by rw[←HTT.out];omega)
      obtain⟨x,hx,hxT⟩:∃x:Nat,(T=(x:Int)∧x<n)∧x=G.T (4*t+f):=⟨G.T (4*t+f),⟨by rw[HTT.out,e1],by have:=HNN.out.2;omega⟩,rfl⟩
      obtain⟨rfl,hxk⟩:=hx
      have hpf:=e3 f hf4
      obtain⟨P,hPf,hPP⟩:∃P:Nat,(G.pm (4*t+f) f=(P:Int)∧P<4)∧P=G.P (4*t+f) f:=⟨_,⟨hpf.1,hpf.2⟩,rfl⟩
      have hxP:4*x+P=tb G (4*t+f):=by unfold tb;rw[hxT,hPP,show (4*t+f) % 4=f by omega]
      have HXP:=Lib.hid hxP
      have q1:decide (0≤(x:Int))=true:=by simp
      have x0:0≤(x:Int):=by omega
      have xk:(x:Int)<(n:Int):=by omega
      have HPF:=Lib.hid hPf
      have f0:0≤(f:Int):=by omega
      have f4:(f:Int)<4:=by omega
      obtain⟨nn,hmap⟩:=hL.tree
      obtain⟨tb1,htb⟩:∃b,b=treeB G (4*t+f):=⟨_,rfl⟩
      have hlook:∀o,(Instr.lookup 134 (.map (some (N+1))) (.agg #[.int .i64 (t:Int),.int .i64 (f:Int)]) false).run Try.prog (wr.alloc o)=.ok (.bool tb1) (wr.alloc o):=fun o=>by
       have:=(hmap.kept (World.grownBy_alloc wr o none) (by simp)).look codes82 und134 (zero4 _) false (t,f) ⟨by show t<_;omega,by show f<_;omega⟩
       unfold kp at this
       rw[this,htb]
       unfold trD
       cases hb:treeB G (4*t+f)<;>simp[hf4]
      have HTB:=Lib.hid htb
      have hoc:=hL.out.cell (i:=4*t+f) (by have:=HNN.out.2;omega)
      obtain⟨K0,hK0⟩:∃K0,K0=ltrK G (4*t+f) (4*t+f):=⟨_,rfl⟩
      rw[←hK0,show 4*t+f=t*4+f by omega] at hoc
      have oca:=za4 hoc
      have HK0:=Lib.hid hK0
      clear e1 e2 e3 hpf hPf hxT hPP hxP htb hmap hoc hK0
      cases tb1 with
      | true=>
       clear hL oca
       go_wp2
       have hg:genB G (4*t+f)=false:=by
        cases hb:genB G (4*t+f) with
        | false=>rfl
        | true=>have:=(zd7.1 hb).2.1;rw[←HTB.out] at this;cases this
       obtain⟨g1,g2⟩:=HSK.out hg _ (HL.out.kept (World.grownBy_alloc _ _ _))
       exact⟨⟨f+1,by omega,by simp,by rw[g1],g2⟩,by simp[intOf];omega⟩
      | false=>
       have hfi:=ltrK_first HG.out.1 hkk (by rw[←HTT.out];exact hT0) HTB.out.symm
       rw[←HK0.out] at hfi
       rcases Classical.em (K0=0) with h0 | h0
       ·have qF:(K0==0)=true:=by simpa using h0
        have hg:genB G (4*t+f)=true:=zd7.2 ⟨by rw[←HTT.out];omega,HTB.out.symm,hfi.1 h0⟩
        have HGB:=Lib.hid hg
        have w1:IntKind.i64.wrap ((gn:Int)+1)=(gn:Int)+1:=IntWalk.i64_in _ (by omega)
        have w2:IntKind.i64.wrap (-((gn:Int)+1))=-((gn:Int)+1):=IntWalk.i64_in _ (by omega)
        have P0:0≤(P:Int):=by omega
        have P4:(P:Int)<4:=by have:=HPF.out.2;omega
        obtain⟨WE,hWE⟩:∃WE,WE=wr.alloc (.cells (zd3 (x:Int) (G.pm (4*t+f))) 87):=⟨_,rfl⟩
        have hLE:GL2 w WE N O n (.slice (some ⟨b,off,none⟩) n cap) (treeB G) (ltrK G (4*t+f)):=by rw[hWE];exact hL.kept (World.grownBy_alloc _ _ _)
        have fe0:WE.cell? ⟨wr.heap.size,0,none⟩=some (.int .i64 (x:Int)):=by rw[hWE];exact (World.cell?_alloc_at _ _ _ _ rfl)
        have fef:WE.cell? ⟨wr.heap.size,1+f,none⟩=some (.int .i64 (P:Int)):=by rw[hWE,←HPF.out.1];exact (World.cell?_alloc_at _ _ _ _ rfl).trans (zf8 _ _ f hf4)
        have hOl:O<wr.heap.size:=hL.out.lt
        have HE:=Hd3 hLE fe0 fef
        have HWE:=Lib.hid hWE
        unfold zd3 at hWE
        clear hL hLE fe0 fef hg hfi h0
        go_wp2
        refine zb3 fun WF hWF=>?_
        rw[←hWE] at hWF
        subst hWF
        clear hWE oca
        obtain⟨hLE,fe0,fef⟩:=HE.out
        obtain⟨EB,hEB⟩:∃EB,EB=wr.heap.size:=⟨_,rfl⟩
        rw[←hEB] at fe0 fef hOl ⊢
        have HEB:=Lib.hid hEB
        have oc:=hLE.out.cell (i:=4*t+f) (by have:=HNN.out.2;omega)
        have of1:=hLE.out.frozen (4*t+f)
        have og:=(hLE.put (t*4+f) ((gn:Int)+1)).out.cell (i:=4*x+P) (by have:=HPF.out.2;omega)
        have og1:=(hLE.put (t*4+f) ((gn:Int)+1)).out.frozen (4*x+P)
        rw[show 4*t+f=t*4+f by omega] at oc of1
        rw[show 4*x+P=x*4+P by omega] at og og1
        have HLE:=Lib.hid hLE
        obtain⟨y1,hy1⟩:∃y,y=ltrK G (t*4+f) (t*4+f):=⟨_,rfl⟩
        clear hEB hLE
        refine wp_region_noPanic ?_
        refine wp_region_until (fun w'=>w'.cell? ⟨EB,0,none⟩=some (.int .i64 (x:Int))∧w'.cell? ⟨EB,1+f,none⟩=some (.int .i64 (P:Int))) 18 (by kernel_rfl) ?_
        change wpAnyU _ _ _ _ _ _ 19 #[false,false,false,false,false,false,false,false,false,false,false,false,false,false,false,false,false,false,false] _ (World.drew _)
        have hHeld:=And.intro (show WF.drew.cell? ⟨EB,0,none⟩=_ from fe0) (show WF.drew.cell? ⟨EB,1+f,none⟩=_ from fef)
        refine wpAnyU.take (i:=0) (v:=?v0) rfl (by kernel_rfl) (fun _ _ _ h=>h) (Or.inl ⟨by rfl,?yy0⟩) hHeld ?rr0
        case yy0=>
         intro w8 hSw
         obtain⟨s1,s2⟩:=hSw
         go_simp
         try with_reducible rfl
        simp only[Act.put,nrm]
        refine wpAnyU.take (i:=1) (v:=?v1) rfl (by kernel_rfl) (fun _ _ _ h=>h) (Or.inl ⟨by rfl,?yy1⟩) hHeld ?rr1
        case yy1=>
         intro w8 hSw
         obtain⟨s1,s2⟩:=hSw
         go_simp
         try with_reducible rfl
        simp only[Act.put,nrm]
        refine wpAnyU.take (i:=2) (v:=?v2) rfl (by kernel_rfl) (fun _ _ _ h=>h) (Or.inl ⟨by rfl,?yy2⟩) hHeld ?rr2
        case yy2=>
         intro w8 hSw
         obtain⟨s1,s2⟩:=hSw
         go_simp
         try with_reducible rfl
        simp only[Act.put,nrm]
        refine wpAnyU.take (i:=3) (v:=?v3) rfl (by kernel_rfl) (fun _ _ _ h=>h) (Or.inl ⟨by rfl,?yy3⟩) hHeld ?rr3
        case yy3=>
         intro w8 hSw
         obtain⟨s1,s2⟩:=hSw
         go_simp
         try with_reducible rfl
        simp only[Act.put,nrm]
        refine wpAnyU.take (i:=4) (v:=?v4) rfl (by kernel_rfl) (fun _ _ _ h=>h) (Or.inl ⟨by rfl,?yy4⟩) hHeld ?rr4
        case yy4=>
         intro w8 hSw
         obtain⟨s1,s2⟩:=hSw
         go_simp
         try with_reducible rfl
        simp only[Act.put,nrm]
        refine wpAnyU.take (i:=5) (v:=?v5) rfl (by kernel_rfl) (fun _ _ _ h=>h) (Or.inl ⟨by rfl,?yy5⟩) hHeld ?rr5
        case yy5=>
         intro w8 hSw
         obtain⟨s1,s2⟩:=hSw
         go_simp
         try with_reducible rfl
        simp only[Act.put,nrm]
        refine wpAnyU.take (i:=6) (v:=?v6) rfl (by kernel_rfl) (fun _ _ _ h=>h) (Or.inl ⟨by rfl,?yy6⟩) hHeld ?rr6
        case yy6=>
         intro w8 hSw
         obtain⟨s1,s2⟩:=hSw
         go_simp
         try with_reducible rfl
        simp only[Act.put,nrm]
        refine wpAnyU.take (i:=7) (v:=?v7) rfl (by kernel_rfl) (fun _ _ _ h=>h) (Or.inl ⟨by rfl,?yy7⟩) hHeld ?rr7
        case yy7=>
         intro w8 hSw
         obtain⟨s1,s2⟩:=hSw
         go_simp
         try with_reducible rfl
        simp only[Act.put,nrm]
        refine wpAnyU.take (i:=8) (v:=?v8) rfl (by kernel_rfl) (fun _ _ _ h=>h) (Or.inl ⟨by rfl,?yy8⟩) hHeld ?rr8
        case yy8=>
         intro w8 hSw
         obtain⟨s1,s2⟩:=hSw
         go_simp
         try with_reducible rfl
        simp only[Act.put,nrm]
        refine wpAnyU.take (i:=9) (v:=?v9) rfl (by kernel_rfl) (fun _ _ _ h=>h) (Or.inl ⟨by rfl,?yy9⟩) hHeld ?rr9
        case yy9=>
         intro w8 hSw
         obtain⟨s1,s2⟩:=hSw
         go_simp
         try with_reducible rfl
        simp only[Act.put,nrm]
        refine wpAnyU.take (i:=10) (v:=?v10) rfl (by kernel_rfl) (fun _ _ _ h=>h) (Or.inl ⟨by rfl,?yy10⟩) hHeld ?rr10
        case yy10=>
         intro w8 hSw
         obtain⟨s1,s2⟩:=hSw
         go_simp
         try with_reducible rfl
        simp only[Act.put,nrm]
        refine wpAnyU.take (i:=11) (v:=?v11) rfl (by kernel_rfl) (fun _ _ _ h=>h) (Or.inl ⟨by rfl,?yy11⟩) hHeld ?rr11
        case yy11=>
         intro w8 hSw
         obtain⟨s1,s2⟩:=hSw
         go_simp
         try with_reducible rfl
        simp only[Act.put,nrm]
        refine wpAnyU.take (i:=12) (v:=?v12) rfl (by kernel_rfl) (fun _ _ _ h=>h) (Or.inl ⟨by rfl,?yy12⟩) hHeld ?rr12
        case yy12=>
         intro w8 hSw
         obtain⟨s1,s2⟩:=hSw
         go_simp
         try with_reducible rfl
        simp only[Act.put,nrm]
        refine wpAnyU.take (i:=13) (v:=?v13) rfl (by kernel_rfl) (fun _ _ _ h=>h) (Or.inl ⟨by rfl,?yy13⟩) hHeld ?rr13
        case yy13=>
         intro w8 hSw
         obtain⟨s1,s2⟩:=hSw
         go_simp
         try with_reducible rfl
        simp only[Act.put,nrm]
        refine wpAnyU.take (i:=14) (v:=?v14) rfl (by kernel_rfl) (fun _ _ _ h=>h) (Or.inl ⟨by rfl,?yy14⟩) hHeld ?rr14
        case yy14=>
         intro w8 hSw
         obtain⟨s1,s2⟩:=hSw
         go_simp
         try with_reducible rfl
        simp only[Act.put,nrm]
        refine wpAnyU.take (i:=16) (v:=?v16) rfl (by kernel_rfl) (fun _ _ _ h=>h) (Or.inl ⟨by rfl,?yy16⟩) hHeld ?rr16
        case yy16=>
         intro w8 hSw
         obtain⟨s1,s2⟩:=hSw
         go_simp
         try with_reducible rfl
        simp only[Act.put,nrm]
        refine wpAnyU.one (i:=15) (by kernel_rfl) rfl rfl (fun K hK=>?_)
        have HK:=Lib.hid hK
        have ocd:WF.drew.cell? ⟨O,t*4+f,none⟩=some (.int .i64 (ltrK G (t*4+f) (t*4+f))):=oc
        have ofd:WF.drew.frozen? ⟨O,t*4+f,none⟩=false:=of1
        go_simp
        have hsO:∀c o y,c≠O→WF.drew.cell? ⟨c,o,none⟩=some y→(WF.drew.setCell ⟨O,t*4+f,none⟩ (.int .i64 ((gn:Int)+1))).cell? ⟨c,o,none⟩=some y:=fun c o y hc h=>((za1 WF.drew O (t*4+f) (.int .i64 ((gn:Int)+1))).cell h (by simpa using hc))
        have hHeld2:=And.intro (hsO _ _ _ (by omega) hHeld.1) (hsO _ _ _ (by omega) hHeld.2)
        refine HK.out _ _ (fun _=>hHeld2) ?_
        clear hHeld hK HK K
        have hHeld:=hHeld2
        clear hHeld2
        simp only[List.setIfInBounds_toArray,List.set_cons_succ,List.set_cons_zero]
        refine wpAnyU_named fun WS hWS=>?_
        obtain⟨y9,ogS⟩:∃y,WS.cell? ⟨O,x*4+P,none⟩=some (.int .i64 y):=⟨_,by rw[hWS];exact og⟩
        have ofS:WS.frozen? ⟨O,x*4+P,none⟩=false:=by rw[hWS];exact og1
        replace hHeld:WS.cell? ⟨EB,0,none⟩=some (.int .i64 (x:Int))∧WS.cell? ⟨EB,1+f,none⟩=some (.int .i64 (P:Int)):=by rw[hWS];exact hHeld
        have HWS:=Lib.hid hWS
        clear hWS hsO og og1 ocd ofd
        refine wpAnyU.take (i:=17) (v:=?v17) rfl (by kernel_rfl) (fun _ _ _ h=>h) (Or.inl ⟨by rfl,?yy17⟩) hHeld ?rr17
        case yy17=>
         intro w8 hSw
         obtain⟨s1,s2⟩:=hSw
         go_simp
         try with_reducible rfl
        simp only[Act.put,nrm]
        refine wpAnyU.one (i:=18) (by kernel_rfl) rfl rfl (fun K hK=>?_)
        have HK:=Lib.hid hK
        go_simp
        refine HK.out _ _ (fun h=>absurd h (by simp)) ?_
        clear hK HK K
        refine wpAnyU.fin (by kernel_rfl) ?_ _
        refine NoPanic.normal ?_
        go_wp2
        have hgs:gnN G (4*t+(f+1))=gn+1:=by
         rw[HGN.out];show (if genB G (4*t+f)=true then _ else _)=_;rw[HGB.out];rfl
        refine⟨⟨f+1,by omega,by simp,by rw[hgs];simp,?_⟩,by simp[intOf];omega⟩
        refine GL2.congr (o:=fun k=>if k=x*4+P then -((gn:Int)+1) else if k=t*4+f then (gn:Int)+1 else ltrK G (4*t+f) k) ?_ (fun k hk=>?_)
        ·have h0:=((HLE.out.put (t*4+f) ((gn:Int)+1)).kept (zb0 _ none)).put (x*4+P) (-((gn:Int)+1))
         rw[HWS.out];exact h0
        ·rw[show 4*t+(f+1)=4*t+f+1 by omega,ltrK_put HG.out.1 hkk HGB.out (by have:=HNN.out.2;omega),←HXP.out,←HGN.out,show x*4+P=4*x+P by omega,show t*4+f=4*t+f by omega]
       ·have qF:(K0==0)=false:=by simpa using h0
        have hg:genB G (4*t+f)=false:=by
         cases hb:genB G (4*t+f) with
         | false=>rfl
         | true=>exact absurd (hfi.2 (zd7.1 hb).2.2) h0
        have HG0:=Lib.hid hg
        clear hL hfi h0 hg
        go_wp2
        obtain⟨g1,g2⟩:=HSK.out HG0.out _ (HL.out.kept (World.grownBy_alloc _ _ _))
        exact⟨⟨f+1,by omega,by simp,by rw[g1],g2⟩,by simp[intOf];omega⟩
    ·obtain rfl:f=4:=by omega
     clear hL
     go_wp2
     exact⟨⟨t+1,by omega,by simp,by rw[show 4*(t+1)=4*t+4 by omega],by rw[show 4*(t+1)=4*t+4 by omega];exact HL.out⟩,by simp[intOf];omega⟩
  ·obtain rfl:t=n:=by omega
   clear hL
   go_wp2
   go_ret2
   refine⟨O,rfl,?_,by omega,HL.out.bel⟩
   exact HL.out.out.congr (fun k hk=>by rw[HNN.out.2,ltrK_all HG.out.1 (by rw[←HNN.out.2];exact hk)])
end
section
open Go.RowKit Go.Shelf Go.Maps
structure TS (w W:World)(N n:Nat)(v qv:Value)(qs:List Nat)(h tr:Nat→Bool)(sl:Nat):Prop where
 own:W.ownsRow (N+3) 3 1 qv qs.length (qs.map fun (q:Nat)=>Value.int .i64 (q:Int))
 met:∃nn,MapIs W 3 okI mI Value.bool (N+2) nn (fun a=>if h a=true then some true else none)
 out:∃nn,MapIs W 82 okp kp Value.bool (N+1) nn (trD tr)
 qlt:∀q∈qs,q<n
 cnt:qs.length+sl≤nzc (mtI h) n
 c0:W.cell? ⟨N,0,none⟩=some v
 bel:Below N w W
section
variable {w W W':World}{N n sl:Nat}{v qv:Value}{qs:List Nat}{h tr:Nat→Bool}
theorem TS.lo (hq:TS w W N n v qv qs h tr sl):∀b,b<N+3→some b≠qv.ownBlock:=fun b hb e=>by have:=(hq.own.lt b e.symm).1;omega
theorem TS.kept (hq:TS w W N n v qv qs h tr sl)(hg:W.grownBy W' none):TS w W' N n v qv qs h tr sl:=by
 obtain⟨n1,h1⟩:=hq.met
 obtain⟨n2,h2⟩:=hq.out
 exact⟨hq.own.kept hg (by cases qv.ownBlock<;>simp),⟨n1,h1.kept hg (by simp)⟩,⟨n2,h2.kept hg (by simp)⟩,hq.qlt,hq.cnt,hg.cell hq.c0 (by simp),hq.bel.grown hg (by have:=za0 hq.c0;simp only at this;omega) (fun k e=>by cases e)⟩
theorem TS.mark (hq:TS w W N n v qv qs h tr sl){q f nn:Nat}(hf:f<4)(hm:MapIs W' 82 okp kp Value.bool (N+1) nn (fun p=>if p=(q,f) then some true else trD tr p))(hg:W.grownBy W' (some (N+1))):TS w W' N n v qv qs h (fun k=>k==4*q+f || tr k) sl:=by
 obtain⟨n1,h1⟩:=hq.met
 exact⟨hq.own.kept hg (.inr (fun e=>hq.lo _ (by omega) e.symm)),⟨n1,h1.kept hg (by simp)⟩,⟨nn,hm.congr (fun p=>trD_put hf p)⟩,hq.qlt,hq.cnt,hg.cell hq.c0 (by simp),hq.bel.grown hg (by have:=za0 hq.c0;simp only at this;omega) (fun k e=>by cases e;omega)⟩
theorem TS.see (hq:TS w W N n v qv qs h tr sl){x nn:Nat}(hx:x<n)(h0:h x=false)(hm:MapIs W' 3 okI mI Value.bool (N+2) nn (fun a=>if a=x then some true else if h a=true then some true else none))(hg:W.grownBy W' (some (N+2))):TS w W' N n v qv qs (fun i=>i==x || h i) tr (sl+1):=by
 obtain⟨n2,h2⟩:=hq.out
 refine⟨hq.own.kept hg (.inr (fun e=>hq.lo _ (by omega) e.symm)),⟨nn,hm.congr (fun a=>by by_cases e:a=x<;>simp[e])⟩,⟨n2,h2.kept hg (by simp)⟩,hq.qlt,?_,hg.cell hq.c0 (by simp),hq.bel.grown hg (by have:=za0 hq.c0;simp only at this;omega) (fun k e=>by cases e;omega)⟩
 have:=nzc_set (s:=mtI h) (m:=n) (j:=x) (x:=1) hx (by simp[mtI,h0]) (by decide)
 rw[mtI_put] at this
 rw[this]
 have:=hq.cnt
 omega
theorem TS.push {W2 w3:World}{g cap:Nat}(hq:TS w W N n v qv qs h tr (sl+1)){x:Nat}(hx:x<n)(hg2:W.grownBy W2 none)
  (a1:w3.ownsRow (N+3) 3 1 (.slice (some ⟨g,0,none⟩) (qs.length+1) cap) (qs.length+1) ((qs.map fun (q:Nat)=>Value.int .i64 (q:Int))++[.int .i64 (x:Int)])) (a2:W2.grownBy w3 qv.ownBlock) :
  TS w w3 N n v (.slice (some ⟨g,0,none⟩) (qs.length+1) cap) (qs++[x]) h tr sl:=by
 have h1:=hq.kept hg2
 have hN:=za0 hq.c0
 simp only at hN
 have hs2:=hg2.size
 obtain⟨n1,m1⟩:=h1.met
 obtain⟨n2,m2⟩:=h1.out
 refine⟨by simpa using a1,⟨n1,m1.kept a2 (hq.lo _ (by omega))⟩,⟨n2,m2.kept a2 (hq.lo _ (by omega))⟩,fun q hm=>?_,?_,a2.cell h1.c0 (hq.lo N (by omega)),h1.bel.grown a2 (by omega) (fun k e=>by have:=(hq.own.lt k e).1;omega)⟩
 ·rcases List.mem_append.1 hm with q1 | q1
  ·exact hq.qlt q q1
  ·simp at q1;omega
 ·have:=hq.cnt
  simp;omega
theorem TS.qcell (hq:TS w W N n v qv qs h tr sl){k q:Nat}(hk:qs[k]?=some q):∃g cap,qv=.slice (some ⟨g,0,none⟩) qs.length cap∧W.cell? ⟨g,k,none⟩=some (.int .i64 ((q:Nat):Int))∧q<n∧N+3≤g∧g<W.heap.size:=by
 have hkl:=(List.getElem?_eq_some_iff.1 hk).1
 obtain⟨g,cap,hv,_⟩:=hq.own.form (by omega)
 refine⟨g,cap,hv,?_,hq.qlt _ (List.mem_of_getElem? hk),(hq.own.lt g (by rw[hv];rfl)).1,(hq.own.lt g (by rw[hv];rfl)).2⟩
 have:=hq.own.cells (g:=g) (by rw[hv];rfl) k (.int .i64 (q:Nat)) (by simp[hk])
 rwa [Addr.add_mid,Nat.zero_add] at this
end
theorem wp_entry {α β:Type}[DecidableEq α]{W:World}{k e t:TypeId}{ok:α→Prop}{κ:α→Value}{ν:β→Value}{b n:Nat}{D:α→Option β}{o:Oper}{act:Act}{K:Act→World→Prop}{Q:Exit→Act→World→Prop}(m x:Operand)(hop:o.op=Op.mapEntry t m x)
  (C:Codes k ok κ) (ht:Try.prog.underlying t=some (.map k e)) {z:Value} (hz:∀u:World,(zeroValue e).run Try.prog u=.ok z u) (h:MapIs W k ok κ ν b n D) (a:α) (ha:ok a) (c:β) (hm:act.eval m=.map (some b)) (hx:act.eval x=κ a)
  (hK:∀v0 (st:Nat) W1,W.grownBy W1 (some b)→W1.heap.size=W.heap.size→(∀W2:World,W2.heap[b]?=W1.heap[b]?→∃W3,(Instr.entryStore t (.map (some b)) (.int .i64 (st:Int)) (ν c)).run Try.prog W2=.ok () W3∧MapIs W3 k ok κ ν b (if (D a).isSome then n else n+1) (fun x=>if x=a then some c else D x)∧W2.grownBy W3 (some b)∧W3.heap.size=W2.heap.size)→K (act.put o.dst (.tuple #[v0,.int .i64 (st:Int)])) W1) :
  o.wp Try.prog act W K Q:=by
 obtain⟨v0,st,W1,hrun,r1,r2,r3⟩:=h.entry C ht hz a ha c
 unfold Oper.wp
 simp[execOp,hop,hm,hx,hrun,Result.andThen]
 exact hK v0 st W1 r1 r2 r3
theorem wp_estore {W W3:World}{t:TypeId}{b:Nat}{st:Int}{c:Value}{o:Oper}{act:Act}{K:Act→World→Prop}{Q:Exit→Act→World→Prop}(m s x:Operand)(hop:o.op=Op.entryStore t m s x)
  (hrun:(Instr.entryStore t (.map (some b)) (.int .i64 st) c).run Try.prog W=.ok () W3) (hm:act.eval m=.map (some b)) (hs:act.eval s=.int .i64 st) (hx:act.eval x=c) (hK:K (act.put o.dst undef) W3) :
  o.wp Try.prog act W K Q:=by
 unfold Oper.wp
 simp[execOp,hop,hm,hs,hx,hrun,Result.andThen]
 exact hK
theorem crossings_walk (G:Gl)(hok:za9 G=true)(hn0:0<G.n)(v:Value)(w:World)(hG:GlAt w.heap.size w v G) :
  Calls Try.prog 75 #[.agg #[v]] w fun e w'=>∃o,e=.returned (.tuple #[.slice (some ⟨o,0,none⟩) G.n G.n,.int .i64 (gnN G (4*G.n):Nat)])∧w'.rowIs o 84 (4*G.n) (fun k=>.int .i64 (ltrI G k))∧w.heap.size≤o∧Below w.heap.size w w':=by
 have hn:G.n≤1000:=zg5 hok
 have hmm:=@run_makeMap Try.prog
 have HG:=Hd2 hok hG
 obtain⟨a,cap,rfl⟩:∃a cap,v=.slice a G.n cap:=by obtain⟨a,_,_,cap,e,_⟩:=hG;exact⟨a,cap,e⟩
 clear hok hG
 generalize hN:w.heap.size=N at *
 obtain⟨n,hne⟩:∃n,n=G.n:=⟨_,rfl⟩
 rw[←hne] at hn hn0 ⊢
 have HNN:=Hd2 hN hne
 clear hne
 have hmd:MapIs (((w.alloc (.cells #[.slice a n cap] 24)).alloc (.map #[] 0)).alloc (.map #[] 0)) 3 okI mI Value.bool (N+1+1) 0 (fun _=>none):=by
  have:=MapIs.made (k:=3) (ok:=okI) (κ:=mI) (ν:=Value.bool) ((w.alloc (.cells #[.slice a n cap] 24)).alloc (.map #[] 0))
  simpa [hN] using this
 have hmo:MapIs (((w.alloc (.cells #[.slice a n cap] 24)).alloc (.map #[] 0)).alloc (.map #[] 0)) 82 okp kp Value.bool (N+1) 0 (fun _=>none):=by
  have:=MapIs.made (k:=82) (ok:=okp) (κ:=kp) (ν:=Value.bool) (w.alloc (.cells #[.slice a n cap] 24))
  have h2:=this.kept (World.grownBy_alloc _ (.map #[] 0) none) (by simp)
  simpa [hN] using h2
 have hcc:(((w.alloc (.cells #[.slice a n cap] 24)).alloc (.map #[] 0)).alloc (.map #[] 0)).cell? ⟨N,0,none⟩=some (.slice a n cap):=za4 (za4 (World.cell?_alloc_at _ _ _ _ hN.symm) _) _
 have hbb:Below N w (((w.alloc (.cells #[.slice a n cap] 24)).alloc (.map #[] 0)).alloc (.map #[] 0)):=by subst hN;(repeat' (first | assumption | exact Below.refl _ _ | refine za7 ?_ (by assumption) | refine zb2 ?_ _ | refine za5 ?_ | refine zb1 ?_ (by simp<;>omega) _))
 have H0:=Hd4 hmd hmo hcc hbb
 clear hmd hmo hcc hbb
 go_enter Try.func75,Try.ntmps75
 go_wp2_with (first
  |(refine wpList_insert (a:=(0:Nat)) (c:=true) (κ:=mI) (ν:=Value.bool) (D:=fun _=>none) (ok:=okI) (k:=3) rfl 182 (.tmp 17) (.const (.int .i64 0)) (.const (.bool true)) rfl codesI und182 H0.out.1 okI0 rfl rfl rfl ?_;intro W1 h1 h2 h3;have H1:=Hd3 h1 h2 h3;clear h1 h2 h3))
 obtain⟨D,hD⟩:∃D,D=W1.heap.size:=⟨_,rfl⟩
 rw[←hD]
 refine zb3 fun W2 hW2=>?_
 have hQ:TS w W2 N n (.slice a n cap) (.slice (some ⟨D,0,none⟩) 1 1) (bf G 0).q (bf G 0).h (bf G 0).tr 0:=by
  obtain⟨h1,h2,h3⟩:=H1.out
  obtain⟨m1,m2,cc,bb⟩:=H0.out
  have hs1:W1.heap.size=N+3:=by rw[h3];simp[hN]
  have hal:=World.grownBy_alloc W1 (.cells #[.int .i64 0] 3) none
  rw[←hW2] at hal
  have hown:=World.ownsRow_lit (base:=N+3) (e:=3) (size:=1) W1 #[.int .i64 0] 1 (by omega) (by decide) rfl
  rw[←hW2,←hD] at hown
  have hc:=nzc_set (s:=fun _=>0) (m:=n) (j:=0) (x:=1) (by omega) rfl (by decide)
  have hm:mtI (bf G 0).h=fun i=>if i=0 then 1 else 0:=by funext i;simp[mtI,bf,bf0,lp]
  refine⟨hown,⟨_,(h1.kept hal (by simp)).congr (fun x=>?_)⟩,⟨_,((m2.kept h2 (by simp)).kept hal (by simp)).congr (fun p=>by simp[trD,bf,bf0,lp])⟩,fun q hq=>by simp[bf,bf0,lp] at hq;omega,by rw[hm,hc];simp[bf,bf0,lp],hal.cell (h2.cell cc (by simp;omega)) (by simp),(bb.grown h2 (by simp;omega) (fun r e=>by cases e;omega)).grown hal (by omega) (fun r e=>by cases e)⟩
  by_cases e:x=0<;>simp[e,bf,bf0,lp]
 have HQ:=Lib.hid hQ
 clear hQ hW2 hD
 go_loopw [6,7] (fun lv i wr=>∃(j:Nat),j≤(bf G j).q.length∧i=.int .i64 j∧TS w wr N n (.slice a n cap) lv (bf G j).q (bf G j).h (bf G j).tr 0) (fun _ i _=>n-(intOf i).toNat)
 case atStart=>exact⟨0,by omega,rfl,HQ.out⟩
 case round=>
  clear HQ
  obtain⟨j,hj,rfl,hPE⟩:=hrel
  obtain⟨qs,hqs⟩:∃qs,qs=(bf G j).q:=⟨_,rfl⟩
  rw[←hqs] at hj
  have HQS:=Lib.hid hqs
  have HPE:=Lib.hid hPE
  have hP:=hPE
  rw[←hqs] at hP
  clear hPE hqs
  obtain⟨la,lc,rfl⟩:=za8 hP.own
  have HP:=Lib.hid hP
  have hlk:qs.length≤n:=Nat.le_trans (Nat.le_of_add_right_le hP.cnt) (nzc_le _ _)
  rcases Nat.lt_or_ge j qs.length with hjl | hjl
  ·obtain⟨q,hq⟩:∃q,qs[j]?=some q:=⟨_,List.getElem?_eq_getElem hjl⟩
   obtain⟨g,gc,hge,hqc,hqk,-,-⟩:=hP.qcell hq
   obtain⟨rfl,-,rfl⟩:la=some ⟨g,0,none⟩∧qs.length=qs.length∧lc=gc:=by simpa using hge
   obtain⟨_,b,off,_,hve,hga,hgc⟩:=HG.out.2
   simp only[Value.slice.injEq,true_and] at hve
   obtain⟨hva,hvc⟩:=hve
   obtain⟨hN2,hne2⟩:=HNN.out
   obtain⟨hab,hbB⟩:=hga (by omega)
   rw[hab] at hva
   subst hva
   have hrow:zb9 wr.drew b (off+q*20) G q:=by
    have:=ze5 (W:=w) hgc q (by omega)
    intro jj hjj
    rw[←this jj hjj]
    exact (za5 hP.bel).cell (p:=⟨b,off+q*20+jj,none⟩) (by exact hbB)
   have hrg:=zb9.range hrow
   have c0:wr.drew.cell? ⟨N,0,none⟩=some (.slice (some ⟨b,off,none⟩) n cap):=hP.c0
   replace hqc:wr.drew.cell? ⟨g,j,none⟩=some (.int .i64 (q:Int)):=hqc
   have j0:0≤(j:Int):=by omega
   have jl:(j:Int)<(qs.length:Int):=by omega
   have q0:0≤(q:Int):=by omega
   have qk:(q:Int)<(n:Int):=by omega
   have H5:=Hd2 (HPE.out.kept (zb0 _ none)) hq
   clear HP HPE hge hga hgc hvc hN2 hne2 hab hbB hrow hq hP
   go_wp2
   refine wp_region_still_lit (by kernel_rfl) (by kernel_rfl) ?_
   repeat (first|(refine zf6 rfl 88 (.tmp 32) rfl b (off+q*20) rfl (rowA G q) _ hrg Try.underlying88 rfl (by kernel_rfl) ?_)|(refine wpStill_step (fun K hK=>?_);go_simp;refine hK _ ?_;clear hK K))
   refine wpStill_nil ?_
   go_wp2
   clear hqc c0 hrg
   have H5q:=Lib.hid H5.out.2
   go_loopw [6,34] (fun lv i wr=>∃(f:Nat),f≤4∧i=.int .i64 f∧(lp (bfF G q) (bf G j) f).q[j]?=some q∧TS w wr N n (.slice (some ⟨b,off,none⟩) n cap) lv (lp (bfF G q) (bf G j) f).q (lp (bfF G q) (bf G j) f).h (lp (bfF G q) (bf G j) f).tr 0) (fun _ i _=>4-(intOf i).toNat)
   case atStart=>exact⟨0,by omega,rfl,by rw[HQS.out] at H5;exact H5.out.2,H5.out.1⟩
   case round=>
    clear H5
    obtain⟨f,hf,rfl,hjq,hPE⟩:=hrel
    obtain⟨s,hs⟩:∃s,s=lp (bfF G q) (bf G j) f:=⟨_,rfl⟩
    rw[←hs] at hjq hPE
    have HS:=Lib.hid hs
    obtain⟨qs',hqs'⟩:∃qs',qs'=s.q:=⟨_,rfl⟩
    have HPE:=Lib.hid hPE
    have hP:=hPE
    rw[←hqs'] at hP
    rw[←hqs'] at hjq
    have HSS:=Lib.hid hqs'
    clear hPE hs hqs'
    obtain⟨la',lc',rfl⟩:=za8 hP.own
    have HP:=Hd2 hP hjq
    have hlk':qs'.length≤n:=Nat.le_trans (Nat.le_of_add_right_le hP.cnt) (nzc_le _ _)
    rcases Nat.lt_or_ge f 4 with hf4 | hf4
    ·have hix:=fun w=>ze2 G q f hf4 w
     unfold faceA at hix
     have hkk:4*q+f<4*G.n:=by have:=HNN.out.2;omega
     obtain⟨T,hT⟩:∃T,T=G.tet (4*q+f):=⟨_,rfl⟩
     rw[←hT] at hix
     have HTT:=Lib.hid hT
     rcases Int.lt_or_le T 0 with hT0 | hT0
     ·have q1:decide (0≤T)=false:=by simp;omega
      clear hP hT hjq
      go_wp2
      have hst:lp (bfF G q) (bf G j) (f+1)=s:=by
       show bfF G q f (lp (bfF G q) (bf G j) f)=s
       rw[←HS.out];unfold bfF;rw[if_pos (.inl (by rw[←HTT.out];exact hT0))]
      exact⟨⟨f+1,by omega,by simp,by rw[hst,←HSS.out];exact HP.out.2,by rw[hst];exact HPE.out.kept (World.grownBy_alloc _ _ _)⟩,by simp[intOf];omega⟩
     ·obtain⟨e1,e2,e3⟩:=zc6 HG.out.1 hkk (by omega)
      obtain⟨x,hx,hxT⟩:∃x:Nat,(T=(x:Int)∧x<n)∧x=G.T (4*q+f):=⟨G.T (4*q+f),⟨by rw[hT,e1],by have:=HNN.out.2;omega⟩,rfl⟩
      obtain⟨rfl,hxk⟩:=hx
      have hpf:=e3 f hf4
      obtain⟨P,hPf,hPP⟩:∃P:Nat,(G.pm (4*q+f) f=(P:Int)∧P<4)∧P=G.P (4*q+f) f:=⟨_,⟨hpf.1,hpf.2⟩,rfl⟩
      have hxP:4*x+P=tb G (4*q+f):=by unfold tb;rw[hxT,hPP,show (4*q+f) % 4=f by omega]
      have HXP:=Hd2 hxT hxP
      obtain⟨nn,hmet⟩:=hP.met
      have okx:okI x:=by show x<9223372036854775808;omega
      obtain⟨sx,hsx⟩:∃sx,sx=s.h x:=⟨_,rfl⟩
      have hlook:∀o,(Instr.lookup 182 (.map (some (N+2))) (.int .i64 (x:Int)) false).run Try.prog (wr.alloc o)=.ok (.bool sx) (wr.alloc o):=fun o=>by
       have:=(hmet.kept (World.grownBy_alloc wr o none) (by simp)).look codesI und182 (zero4 _) false x okx
       unfold mI at this
       rw[this,hsx]
       cases hb:s.h x<;>simp
      have HM:=Lib.hid (fun o=>hmet.kept (World.grownBy_alloc wr o none) (by simp))
      have q1:decide (0≤(x:Int))=true:=by simp
      have x0:0≤(x:Int):=by omega
      have xk:(x:Int)<(n:Int):=by omega
      have HPF:=Lib.hid hPf
      have hFA:∀j v,(zd3 (x:Int) (G.pm (4*q+f)))[j]?=some v→(wr.alloc (.cells (zd3 (x:Int) (G.pm (4*q+f))) 87)).cell? ⟨wr.heap.size,j,none⟩=some v:=fun j v hv=>(World.cell?_alloc_at _ _ _ _ rfl).trans hv
      have HFA:=Lib.hid hFA
      have HSX:=Lib.hid hsx
      clear hT e1 e2 e3 hpf hPf hFA hxT hPP hxP hmet hsx
      cases sx with
      | true=>
       clear hP hjq
       go_wp2
       have hst:lp (bfF G q) (bf G j) (f+1)=s:=by
        show bfF G q f (lp (bfF G q) (bf G j) f)=s
        rw[←HS.out];unfold bfF;rw[if_pos (.inr (by rw[←HXP.out.1];exact HSX.out.symm))]
       exact⟨⟨f+1,by omega,by simp,by rw[hst,←HSS.out];exact HP.out.2,by rw[hst];exact HPE.out.kept (World.grownBy_alloc _ _ _)⟩,by simp[intOf];omega⟩
      | false=>
       obtain⟨g',gc',hge,hqc,-,hg3,hgl⟩:=hP.qcell hjq
       obtain⟨rfl,-,rfl⟩:la'=some ⟨g',0,none⟩∧qs'.length=qs'.length∧lc'=gc':=by simpa using hge
       have hjl9:=(List.getElem?_eq_some_iff.1 HP.out.2).1
       have hjb:(j:Int)<(qs'.length:Int):=by omega
       have fa0:=HFA.out 0 _ rfl
       have faf:=HFA.out (1+f) _ (zf8 _ _ f hf4)
       rw[HPF.out.1] at faf
       have hE2:wr.heap.size≠N+2:=by
        obtain⟨nn2,h2⟩:=HP.out.1.met
        have:=h2.lt;omega
       have hE1:wr.heap.size≠N+1:=by
        obtain⟨nn2,h2⟩:=HP.out.1.out
        have:=h2.lt;omega
       have HGL:=Hd5 hg3 hgl hE1 hE2 (za4 (o:=.cells (zd3 (x:Int) (G.pm (4*q+f))) 87) hqc)
       have HO:=Hd2 fa0 faf
       unfold zd3 at HO HGL
       clear hP hjq hge hg3 hgl fa0 faf hqc hE1 hE2
       go_wp2_with (refine zg3 (a:=x) (c:=true) (κ:=mI) (ν:=Value.bool) rfl 182 (.tmp 48) (.tmp 50) (.const (.bool true)) rfl codesI und182 (HM.out _) okx rfl rfl rfl ?_;intro W3 m1 m2 m3;have y3:=m2.cell HO.out.1 (by simpa using HGL.out.2.2.2.1);have z3:=m2.cell HO.out.2 (by simpa using HGL.out.2.2.2.1);have g3:=m2.cell HGL.out.2.2.2.2 (by have:=HGL.out.1;simp;omega);have H3:=Hd3 m1 m2 m3;clear m1 m2 m3)
       go_frame
       have hTS3:TS w W3 N n (.slice (some ⟨b,off,none⟩) n cap) (.slice (some ⟨g',0,none⟩) qs'.length lc') qs' (fun i=>i==x || s.h i) s.tr 1:=(HP.out.1.kept (World.grownBy_alloc wr _ none)).see hxk HSX.out.symm H3.out.1 H3.out.2.1
       obtain⟨EB,hEB⟩:∃EB,EB=wr.heap.size:=⟨_,rfl⟩
       rw[←hEB] at y3 z3 ⊢
       have hEg:EB≠N+1:=by rw[hEB];exact HGL.out.2.2.1
       have hgN:g'≠N+1:=by have:=HGL.out.1;omega
       have hE3:EB<W3.heap.size:=za0 y3
       have HEB:=Lib.hid hEB
       clear hEB
       have f0i:0≤(f:Int):=by omega
       have f4i:(f:Int)<4:=by omega
       have j0:0≤(j:Int):=by omega
       have hTS4:=hTS3.kept (zb0 W3 none)
       have hHeld:=And.intro (show W3.drew.cell? ⟨g',j,none⟩=_ from g3) (And.intro (show W3.drew.cell? ⟨EB,0,none⟩=_ from y3) (show W3.drew.cell? ⟨EB,1+f,none⟩=_ from z3))
       obtain⟨nn4,hm4⟩:=hTS4.out
       have HT4:=Hd2 hTS4 hm4
       clear hTS3 hTS4 hm4 g3 y3 z3
       refine wp_region_noPanic ?_
       refine wp_region_until (fun w'=>w'.cell? ⟨g',j,none⟩=some (.int .i64 (q:Int))∧w'.cell? ⟨EB,0,none⟩=some (.int .i64 (x:Int))∧w'.cell? ⟨EB,1+f,none⟩=some (.int .i64 (P:Int))) 20 (by kernel_rfl) ?_
       change wpAnyU _ _ _ _ _ _ 21 #[false,false,false,false,false,false,false,false,false,false,false,false,false,false,false,false,false,false,false,false,false] _ (World.drew _)
       have okq:okp (q,f):=⟨by show q<9223372036854775808;omega,by show f<9223372036854775808;omega⟩
       have okxp:okp (x,P):=⟨by show x<9223372036854775808;omega,by show P<9223372036854775808;have:=HPF.out.2;omega⟩
       have hHold:∀(A B:World),A.grownBy B (some (N+1))→(A.cell? ⟨g',j,none⟩=some (.int .i64 (q:Int))∧A.cell? ⟨EB,0,none⟩=some (.int .i64 (x:Int))∧A.cell? ⟨EB,1+f,none⟩=some (.int .i64 (P:Int)))→(B.cell? ⟨g',j,none⟩=some (.int .i64 (q:Int))∧B.cell? ⟨EB,0,none⟩=some (.int .i64 (x:Int))∧B.cell? ⟨EB,1+f,none⟩=some (.int .i64 (P:Int))):=fun _ _ hg h=>⟨hg.cell h.1 (by simpa using hgN),hg.cell h.2.1 (by simpa using hEg),hg.cell h.2.2 (by simpa using hEg)⟩
       have HHold:=Lib.hid hHold
       clear hHold
       refine wpAnyU.take (i:=0) (v:=?v0) rfl (by kernel_rfl) (fun _ _ _ h=>h) (Or.inl ⟨by rfl,?yy0⟩) hHeld ?rr0
       case yy0=>
        intro w8 hSw
        obtain⟨s1,s2,s3⟩:=hSw
        go_simp
        try with_reducible rfl
       simp only[Act.put,nrm]
       refine wpAnyU.take (i:=1) (v:=?v1) rfl (by kernel_rfl) (fun _ _ _ h=>h) (Or.inl ⟨by rfl,?yy1⟩) hHeld ?rr1
       case yy1=>
        intro w8 hSw
        obtain⟨s1,s2,s3⟩:=hSw
        go_simp
        try with_reducible rfl
       simp only[Act.put,nrm]
       refine wpAnyU.take (i:=2) (v:=?v2) rfl (by kernel_rfl) (fun _ _ _ h=>h) (Or.inl ⟨by rfl,?yy2⟩) hHeld ?rr2
       case yy2=>
        intro w8 hSw
        obtain⟨s1,s2,s3⟩:=hSw
        go_simp
        try with_reducible rfl
       simp only[Act.put,nrm]
       refine wpAnyU.take (i:=3) (v:=?v3) rfl (by kernel_rfl) (fun _ _ _ h=>h) (Or.inl ⟨by rfl,?yy3⟩) hHeld ?rr3
       case yy3=>
        intro w8 hSw
        obtain⟨s1,s2,s3⟩:=hSw
        go_simp
        try with_reducible rfl
       simp only[Act.put,nrm]
       refine wpAnyU.take (i:=4) (v:=?v4) rfl (by kernel_rfl) (fun _ _ _ h=>h) (Or.inl ⟨by rfl,?yy4⟩) hHeld ?rr4
       case yy4=>
        intro w8 hSw
        obtain⟨s1,s2,s3⟩:=hSw
        go_simp
        try with_reducible rfl
       simp only[Act.put,nrm]
       refine wpAnyU.take (i:=5) (v:=?v5) rfl (by kernel_rfl) (fun _ _ _ h=>h) (Or.inl ⟨by rfl,?yy5⟩) hHeld ?rr5
       case yy5=>
        intro w8 hSw
        obtain⟨s1,s2,s3⟩:=hSw
        go_simp
        try with_reducible rfl
       simp only[Act.put,nrm]
       refine wpAnyU.take (i:=6) (v:=?v6) rfl (by kernel_rfl) (fun _ _ _ h=>h) (Or.inl ⟨by rfl,?yy6⟩) hHeld ?rr6
       case yy6=>
        intro w8 hSw
        obtain⟨s1,s2,s3⟩:=hSw
        go_simp
        try with_reducible rfl
       simp only[Act.put,nrm]
       refine wpAnyU.take (i:=7) (v:=?v7) rfl (by kernel_rfl) (fun _ _ _ h=>h) (Or.inl ⟨by rfl,?yy7⟩) hHeld ?rr7
       case yy7=>
        intro w8 hSw
        obtain⟨s1,s2,s3⟩:=hSw
        go_simp
        try with_reducible rfl
       simp only[Act.put,nrm]
       refine wpAnyU.take (i:=8) (v:=?v8) rfl (by kernel_rfl) (fun _ _ _ h=>h) (Or.inl ⟨by rfl,?yy8⟩) hHeld ?rr8
       case yy8=>
        intro w8 hSw
        obtain⟨s1,s2,s3⟩:=hSw
        go_simp
        try with_reducible rfl
       simp only[Act.put,nrm]
       refine wpAnyU.take (i:=9) (v:=?v9) rfl (by kernel_rfl) (fun _ _ _ h=>h) (Or.inl ⟨by rfl,?yy9⟩) hHeld ?rr9
       case yy9=>
        intro w8 hSw
        obtain⟨s1,s2,s3⟩:=hSw
        go_simp
        try with_reducible rfl
       simp only[Act.put,nrm]
       refine wpAnyU.take (i:=10) (v:=?v10) rfl (by kernel_rfl) (fun _ _ _ h=>h) (Or.inl ⟨by rfl,?yy10⟩) hHeld ?rr10
       case yy10=>
        intro w8 hSw
        obtain⟨s1,s2,s3⟩:=hSw
        go_simp
        try with_reducible rfl
       simp only[Act.put,nrm]
       refine wpAnyU.take (i:=11) (v:=?v11) rfl (by kernel_rfl) (fun _ _ _ h=>h) (Or.inl ⟨by rfl,?yy11⟩) hHeld ?rr11
       case yy11=>
        intro w8 hSw
        obtain⟨s1,s2,s3⟩:=hSw
        go_simp
        try with_reducible rfl
       simp only[Act.put,nrm]
       refine wpAnyU.take (i:=12) (v:=?v12) rfl (by kernel_rfl) (fun _ _ _ h=>h) (Or.inl ⟨by rfl,?yy12⟩) hHeld ?rr12
       case yy12=>
        intro w8 hSw
        obtain⟨s1,s2,s3⟩:=hSw
        go_simp
        try with_reducible rfl
       simp only[Act.put,nrm]
       refine wpAnyU.take (i:=13) (v:=?v13) rfl (by kernel_rfl) (fun _ _ _ h=>h) (Or.inl ⟨by rfl,?yy13⟩) hHeld ?rr13
       case yy13=>
        intro w8 hSw
        obtain⟨s1,s2,s3⟩:=hSw
        go_simp
        try with_reducible rfl
       simp only[Act.put,nrm]
       refine wpAnyU.take (i:=14) (v:=?v14) rfl (by kernel_rfl) (fun _ _ _ h=>h) (Or.inl ⟨by rfl,?yy14⟩) hHeld ?rr14
       case yy14=>
        intro w8 hSw
        obtain⟨s1,s2,s3⟩:=hSw
        go_simp
        try with_reducible rfl
       simp only[Act.put,nrm]
       refine wpAnyU.one (i:=15) (by kernel_rfl) rfl rfl (fun K hK=>?_)
       refine wp_entry (.tmp 51) (.tmp 57) rfl codes82 und134 (fun u=>zero4 u) HT4.out.2 (q,f) okq true rfl rfl ?_
       intro v0 st W5 r1 r2 r3
       have hHeld5:=HHold.out _ _ r1 hHeld
       refine hK _ _ (fun _=>hHeld5) ?_
       clear hK K hHeld
       have hHeld:=hHeld5
       clear hHeld5
       obtain⟨W6,t1,t2,t3,t4⟩:=r3 W5 rfl
       have H6:=Hd4 t1 t2 (za2 r1 t3) t4
       have hHeld6:=HHold.out _ _ t3 hHeld
       clear r1 r2 r3 t1 t2 t3 t4
       simp only[Act.put,nrm]
       refine wpAnyU.take (i:=16) (v:=?v16) rfl (by kernel_rfl) (fun _ _ _ h=>h) (Or.inl ⟨by rfl,?yy16⟩) hHeld ?rr16
       case yy16=>
        intro w8 hSw
        obtain⟨s1,s2,s3⟩:=hSw
        go_simp
        try with_reducible rfl
       simp only[Act.put,nrm]
       refine wpAnyU.one (i:=17) (by kernel_rfl) rfl rfl (fun K hK=>?_)
       refine wp_estore (.tmp 51) (.tmp 67) (.const (.bool true)) rfl H6.out.1 rfl rfl rfl ?_
       refine hK _ _ (fun _=>hHeld6) ?_
       clear hK K hHeld
       have hHeld:=hHeld6
       clear hHeld6
       simp only[Act.put,nrm]
       have hTS6:=HT4.out.1.mark hf4 H6.out.2.1 H6.out.2.2.1
       obtain⟨nn6,hm6⟩:=hTS6.out
       have HT6:=Hd2 hTS6 hm6
       clear hTS6 hm6
       refine wpAnyU.one (i:=18) (by kernel_rfl) rfl rfl (fun K hK=>?_)
       refine wp_entry (.tmp 58) (.tmp 65) rfl codes82 und134 (fun u=>zero4 u) HT6.out.2 (x,P) okxp true rfl rfl ?_
       intro v1 st1 W7 r1 r2 r3
       have hHeld7:=HHold.out _ _ r1 hHeld
       refine hK _ _ (fun _=>hHeld7) ?_
       clear hK K hHeld
       have hHeld:=hHeld7
       clear hHeld7
       obtain⟨W8,t1,t2,t3,t4⟩:=r3 W7 rfl
       have H8:=Hd4 t1 t2 (za2 r1 t3) t4
       have hHeld8:=HHold.out _ _ t3 hHeld
       clear r1 r2 r3 t1 t2 t3 t4
       simp only[Act.put,nrm]
       refine wpAnyU.take (i:=19) (v:=?v19) rfl (by kernel_rfl) (fun _ _ _ h=>h) (Or.inl ⟨by rfl,?yy19⟩) hHeld ?rr19
       case yy19=>
        intro w8 hSw
        obtain⟨s1,s2,s3⟩:=hSw
        go_simp
        try with_reducible rfl
       simp only[Act.put,nrm]
       refine wpAnyU.one (i:=20) (by kernel_rfl) rfl rfl (fun K hK=>?_)
       refine wp_estore (.tmp 58) (.tmp 69) (.const (.bool true)) rfl H8.out.1 rfl rfl rfl ?_
       refine hK _ _ (fun h=>absurd h (by simp)) ?_
       clear hK K hHeld
       simp only[Act.put,nrm]
       refine wpAnyU.fin (by kernel_rfl) ?_ _
       refine NoPanic.normal ?_
       have hTS8:=HT6.out.1.mark HPF.out.2 H8.out.2.1 H8.out.2.2.1
       have HT8:=Lib.hid hTS8
       have hs8:N+3≤W8.heap.size:=by have:=HT8.out.bel.size;have h1:=HT8.out.own.lt g' rfl;omega
       obtain⟨j0',hj0',hz30,hz31,hz32⟩:=info_parts info3
       have fb0:=hHeld8.2.1
       have HOW:=Lib.hid (hTS8.own.alloc (.cells #[.int .i64 (x:Int)] 3))
       clear hTS8 hHeld8
       go_wp2_with (at_builtin;go_loud (refine (wpList_append_lies _ rfl (.tmp 70) (.tmp 73) 35 rfl (N+3) 3 j0' _ 1 8 und35 hj0' hz30 hz31 hz32 rfl (by omega) (.slice (some ⟨g',0,none⟩) qs'.length lc') qs'.length _ rfl HOW.out ⟨W8.heap.size,0,none⟩ 1 1 [.int .i64 (x:Int)] rfl rfl (World.news_of_block (cs:=#[.int .i64 (x:Int)]) (MapKept.heap_alloc W8 (.cells #[.int .i64 (x:Int)] 3)).1) (by simp[Value.oneCell']) (by omega) (by unfold maxLen;omega) (by omega) (by simp;omega) (W8.heap.size+1) (by simp) ?_));intro g9 c9 w9 r1 r2 r3 r4;have HR:=Hd4 r1 r2 r3 r4;clear r1 r2 r3 r4)
       have hst:lp (bfF G q) (bf G j) (f+1)=⟨qs'++[x],fun y=>y==x || s.h y,fun k=>k==4*x+P || (k==4*q+f || s.tr k)⟩:=by
        show bfF G q f (lp (bfF G q) (bf G j) f)=_
        rw[←HS.out];unfold bfF
        rw[if_neg ?_,←HXP.out.1,←HXP.out.2,HSS.out]
        rintro (c | c)
        ·rw[←HTT.out] at c;omega
        ·rw[←HXP.out.1,←HSX.out] at c;cases c
       have hG9:=HT8.out.push hxk (World.grownBy_alloc W8 _ none) HR.out.1 HR.out.2.1
       refine⟨⟨f+1,by omega,by simp,?_,?_⟩,by simp[intOf];omega⟩
       ·rw[hst]
        show (qs'++[x])[j]?=some q
        rw[List.getElem?_append_left (List.getElem?_eq_some_iff.1 HP.out.2).1];exact HP.out.2
       ·rw[hst];exact hG9
    ·obtain rfl:f=4:=by omega
     clear hP hjq
     go_wp2
     have:=(List.getElem?_eq_some_iff.1 HP.out.2).1
     have hst:bf G (j+1)=s:=by rw[bf_succ (a:=q) (by rw[←HQS.out];exact H5q.out),HS.out]
     exact⟨⟨j+1,by rw[hst,←HSS.out];omega,by simp,by rw[hst];exact HPE.out⟩,by simp[intOf];omega⟩
  ·obtain rfl:j=qs.length:=by omega
   have htr:(bf G qs.length).tr=treeB G:=tree_fin (by rw[←HNN.out.2];exact hlk) (by rw[←HQS.out];exact Nat.le_refl _)
   have hTr:∃nn,MapIs wr 82 okp kp Value.bool (N+1) nn (trD (treeB G)):=by
    obtain⟨nn,h⟩:=hP.out
    rw[htr] at h
    exact⟨nn,h⟩
   have c0:=hP.c0
   have hb:=hP.bel
   have HX:=Hd3 hTr c0 hb
   clear hP htr HP HPE hTr c0 hb
   obtain⟨hN2,hne2⟩:=HNN.out
   have hN3:=hN2.symm
   clear hN2
   subst hne2
   have HX2:=Hd3 hN3 HG.out.1 HG.out.2
   clear hN3
   repeat (first | exact cross_second G HX2.out.2.1 _ w wr N HX2.out.1 HX2.out.2.2 HX.out.1 HX.out.2.1 HX.out.2.2 _ rfl rfl rfl | go_step)
end
end Go.Proofs.Ytlckpgahijlmoaa
