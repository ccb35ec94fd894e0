/- R01.Same of a gluing and a copy of it. No condition. -/
import Derived.Test.YtlckpgahijlmoaaQ10
import Derived.Maps.RangeWalk
set_option maxRecDepth 100000
set_option maxHeartbeats 8000000
namespace Go.Proofs.Ytlckpgahijlmoaa
section
open Go.RowKit Go.Shelf Go.Maps
theorem zf6 {P:Program}{ops:Array Oper}{rest:List Oper}{op:Oper}{a:Act}{w:World}{Q:Act→Prop}(hgd:op.guard=none)(ty:TypeId)(x:Operand)(ho:op.op=.load ty x)
  (b o:Nat) (hx:a.eval x=.pointer (some ⟨b,o,none⟩)) (cs:Array Value) (d:TypeDesc) (hc:w.rangeAt b o cs.toList)
  (hu:P.underlying ty=some d) (hd:d.isRow=true) (hi:(P.info? ty).map (·.size)=some cs.size)
  (h:wpStill P ops w Q rest (a.put op.dst (.agg cs))):wpStill P ops w Q (op :: rest) a:=by
 refine wpStill_step (fun K hK=>?_)
 have hw:Region.wanted op (yielded ops a.tmps)=true:=by simp[Region.wanted,hgd]
 rw[if_pos hw]
 unfold Oper.still execOp
 have hl:=run_loadVar_mid (P:=P) w b o ty cs.toList d hc hu hd (by simpa using hi)
 simp only[ho,hx,Instr.loadAt,Instr.sureAddr,Sem.run_bind,Sem.run_pure,Result.andThen_ok,hl,Array.toArray_toList,Oper.stillUpon_value]
 exact hK _ h
def nxF (G:Gl)(ks:List Nat)(t i f:Nat):Int:=if f≠i∧¬G.tet (4*t+f)<0 then (((plD ks (G.T (4*t+f),G.P (4*t+f) i)).getD 0:Nat):Int) else -1
theorem next_walk (G:Gl)(B L:Nat)(lv:Value)(mb:Nat)(v:Value)(ks:List Nat)(t i:Nat)(ht:t<G.n)(hi:i<4)(w:World)(B0:Nat)(hB0:B0≤w.heap.size)(hG:GlAt B0 w v G)(hok:za9 G=true)(hL:LK w B L lv mb v ks) :
  Calls Try.prog 130 #[.pointer (some ⟨L,0,none⟩),.agg #[.int .i64 (t:Int),.int .i64 (i:Int)]] w fun e w'=>e=.returned (.agg #[Value.int .i64 (nxF G ks t i 0),Value.int .i64 (nxF G ks t i 1),Value.int .i64 (nxF G ks t i 2),Value.int .i64 (nxF G ks t i 3)])∧Below w.heap.size w w':=by
 have hn:G.n≤1000:=by simp only[za9,Bool.and_eq_true,decide_eq_true_eq] at hok;exact hok.1
 have HOK:=Lib.hid hok;clear hok
 obtain⟨a,b,off,cap,rfl,hga,hc⟩:=hG
 obtain⟨rfl,hbB⟩:=hga (by omega)
 have hrow:=ze5 hc t ht
 have l0:=hL.c0
 have HL:=Lib.hid hL;clear hL
 have HC:=Lib.hid hrow;clear hrow hc hga
 go_enter Try.func130,Try.ntmps130
 go_wp2
 refine zb3 fun W1 hW=>?_
 have hB:Below w.heap.size w W1:=by rw[hW];(repeat' (first | assumption | exact Below.refl _ _ | refine za7 ?_ (by assumption) | refine zb2 ?_ _ | refine za5 ?_ | refine zb1 ?_ (by simp<;>omega) _))
 have hrg:W1.rangeAt b (off+t*20) (rowA G t).toList:=zb9.range (fun j hj=>(hB.cell (p:=⟨b,_,none⟩) (by show b<_;omega)).trans (HC.out j hj))
 have l0':=(hB.cell (p:=⟨L,0,none⟩) (za0 l0)).trans l0
 have x0:W1.cell? ⟨w.heap.size,0,none⟩=some (.int .i64 (t:Int)):=by rw[hW];simp[go_sem]
 have x1:W1.cell? ⟨w.heap.size,1,none⟩=some (.int .i64 (i:Int)):=by rw[hW];simp[go_sem]
 have hr5:W1.rowIs (w.heap.size+1+1) 84 4 (fun f=>.int .i64 (if f<0 then nxF G ks t i f else -1)):=by
  have:=World.rowIs_alloc ((w.alloc (.cells #[.int .i64 (t:Int),.int .i64 (i:Int)] 207)).alloc (.cells #[.int .i64 0,.int .i64 0,.int .i64 0,.int .i64 0] 84)) #[.int .i64 (-1),.int .i64 (-1),.int .i64 (-1),.int .i64 (-1)] 84 (fun f=>.int .i64 (if f<0 then nxF G ks t i f else -1)) (by
   intro j hj
   match j,hj with
   | 0,_=>rfl
   | 1,_=>rfl
   | 2,_=>rfl
   | 3,_=>rfl)
  rw[hW]
  simpa using this
 have cr:W1.cell? ⟨w.heap.size+1,0,none⟩=some (.int .i64 0)∧W1.cell? ⟨w.heap.size+1,1,none⟩=some (.int .i64 0)∧W1.cell? ⟨w.heap.size+1,2,none⟩=some (.int .i64 0)∧W1.cell? ⟨w.heap.size+1,3,none⟩=some (.int .i64 0):=by rw[hW];simp[go_sem]
 have fr:W1.frozen? ⟨w.heap.size+1,0,none⟩=false∧W1.frozen? ⟨w.heap.size+1,1,none⟩=false∧W1.frozen? ⟨w.heap.size+1,2,none⟩=false∧W1.frozen? ⟨w.heap.size+1,3,none⟩=false:=by rw[hW];simp[go_sem]
 have hs:W1.heap.size=w.heap.size+3:=by rw[hW];simp
 clear hW
 generalize hN:w.heap.size=N at *
 have H:=Hd4 hB hr5 cr fr;clear hB hr5 cr fr
 have it:(t:Int)<(G.n:Int):=by omega
 have it0:0≤(t:Int):=by omega
 refine wp_region_still_lit (by kernel_rfl) (by kernel_rfl) ?_
 repeat (first|(refine zf6 rfl 88 (.tmp 16) rfl b (off+t*20) rfl (rowA G t) _ hrg Try.underlying88 rfl (by kernel_rfl) ?_)|(refine wpStill_step (fun K hK=>?_);go_simp;refine hK _ ?_;clear hK K))
 refine wpStill_nil ?_
 clear x0 l0' hrg
 go_wp2
 go_loopw [18] (fun i' wr=>∃f:Nat,f≤4∧i'=.int .i64 f∧wr.rowIs (N+1+1) 84 4 (fun g=>.int .i64 (if g<f then nxF G ks t i g else -1))∧W1.grownBy wr (some (N+1+1))) (fun i _=>4-(intOf i).toNat)
 case atStart=>exact⟨0,by omega,rfl,H.out.2.1,zb0 _ _⟩
 case round=>
  obtain⟨f,hf,rfl,hr,hg⟩:=hrel
  have HK:=Hd2 hr hg
  have x1':=hg.cell x1 (by simp;omega)
  have hNr:N<wr.heap.size:=za0 x1'
  have x1a:∀o,(wr.alloc o).cell? ⟨N,1,none⟩=some (.int .i64 (i:Int)):=fun o=>(World.grownBy_alloc wr o none).cell x1' (by simp)
  rcases Nat.lt_or_ge f 4 with hlf | hgf
  ·have f4:(f:Int)<4:=by omega
   have f0:0≤(f:Int):=by omega
   have hix:=fun w=>ze2 G t f hlf w
   unfold faceA at hix
   have hk:4*t+f<4*G.n:=by omega
   have hsz:=hg.size
   clear hr hg
   by_cases hfi:f=i
   ·have hq:=zd9 hfi
    have HE:=Lib.hid (show nxF G ks t i f=-1 by simp[nxF,hfi])
    clear hfi
    go_wp2
    go_roundw
    case rel=>
     refine⟨f+1,by omega,rfl,(HK.out.1.alloc _).congr (fun g _=>?_),za2 HK.out.2 (World.grownBy_alloc _ _ _)⟩
     rcases Nat.lt_trichotomy g f with q | q | q
     ·simp[q,show g<f+1 by omega]
     ·subst q;simp[HE.out]
     ·simp[show ¬g<f by omega,show ¬g<f+1 by omega]
    case measure=>simp[intOf];omega
   ·have hq:=ze4 hfi
    by_cases hneg:G.tet (4*t+f)<0
    ·have HE:=Lib.hid (show nxF G ks t i f=-1 by simp[nxF,hneg])
     generalize G.tet (4*t+f)=T at *
     go_wp2
     go_roundw
     case rel=>
      refine⟨f+1,by omega,rfl,(HK.out.1.alloc _).congr (fun g _=>?_),za2 HK.out.2 (World.grownBy_alloc _ _ _)⟩
      rcases Nat.lt_trichotomy g f with q | q | q
      ·simp[q,show g<f+1 by omega]
      ·subst q;simp[HE.out]
      ·simp[show ¬g<f by omega,show ¬g<f+1 by omega]
     case measure=>simp[intOf];omega
    ·obtain⟨e1,e2,e3⟩:=zc6 HOK.out hk hneg
     have HE:=Lib.hid (show nxF G ks t i f=(((plD ks (G.T (4*t+f),G.P (4*t+f) i)).getD 0:Nat):Int) by simp only[nxF];rw[if_pos ⟨hfi,hneg⟩])
     clear hfi
     rw[e1,(e3 0 (by omega)).1,(e3 1 (by omega)).1,(e3 2 (by omega)).1,(e3 3 (by omega)).1] at hix
     have E3:=Lib.hid e3
     have e3i:=(e3 i hi).2
     clear e1 e3 hneg
     generalize G.T (4*t+f)=T at *
     have T0:0≤(T:Int):=by omega
     have i4:(i:Int)<4:=by omega
     have i0:0≤(i:Int):=by omega
     go_wp2_with fail
     refine zb3 fun W3 hW3=>?_
     have hg3:wr.grownBy W3 none:=hW3▸World.grownBy_alloc _ _ _
     have hBr:Below N w W3:=(H.out.1.grown HK.out.2 (by omega) (fun k hk=>by cases hk;omega)).grown hg3 (by omega) (by simp)
     have cT:W3.cell? ⟨wr.heap.size,0,none⟩=some (.int .i64 (T:Int)):=by rw[hW3];simp[go_sem]
     have cP:W3.cell? ⟨wr.heap.size,1+i,none⟩=some (.int .i64 (G.P (4*t+f) i:Nat)):=by
      rw[hW3]
      match i,hi with
      | 0,_=>simp[go_sem]
      | 1,_=>simp[go_sem]
      | 2,_=>simp[go_sem]
      | 3,_=>simp[go_sem]
     have x1'':=hg3.cell x1' (by simp)
     have hr3:=za3 HK.out.1 hg3 (by simp)
     have cf:=hr3.cell hlf
     have ff:=hr3.frozen f
     have hL3:=HL.out.below (hN▸hBr:Below w.heap.size w W3)
     have l2:=hL3.c2
     obtain⟨nn,hmap⟩:=hL3.map
     generalize hpi:G.P (4*t+f) i=pi at *
     have hlk:=(MapIs.of_block (W':=W3.drew) hmap rfl).look codes207 und203 (zero3 _) false (T,pi) ⟨by show T<_;omega,by show pi<_;omega⟩
     have hmt:((plD ks (T,pi)).elim (Value.int .i64 0) vi)=.int .i64 (((plD ks (T,pi)).getD 0:Nat):Int):=by cases plD ks (T,pi)<;>rfl
     simp only[kp,Bool.false_eq_true,if_false,hmt] at hlk
     generalize (plD ks (T,pi)).getD 0=ix at *
     have H3:=Hd3 hr3 hg3 hBr
     have hsz3:=hg3.size
     clear hmt hmap hL3 hr3 hg3 hBr hW3 hix
     refine zc1 15 (by kernel_rfl) (by kernel_rfl) ?_
     simp only[List.take_succ_cons,List.take_zero,List.drop_succ_cons,List.drop_zero]
     repeat (refine wpStill_step (fun K hK=>?_);go_simp;refine hK _ ?_;clear hK K)
     refine wpStill_nil ?_
     go_wp2
     go_roundw
     case rel=>
      refine⟨f+1,by omega,rfl,(H3.out.1.drew.set f _).congr (fun g _=>?_),za2 (za2 HK.out.2 (H3.out.2.1.but _)) (za2 (zb0 _ _) (za1 _ _ _ _))⟩
      rcases Nat.lt_trichotomy g f with q | q | q
      ·simp[q,show g<f+1 by omega,show g≠f by omega]
      ·subst q;simp[HE.out]
      ·simp[show ¬g<f by omega,show ¬g<f+1 by omega,show g≠f by omega]
     case measure=>simp[intOf];omega
  ·obtain rfl:f=4:=by omega
   have c0:=hr.cell (i:=0) (by omega)
   have c1:=hr.cell (i:=1) (by omega)
   have c2:=hr.cell (i:=2) (by omega)
   have c3:=hr.cell (i:=3) (by omega)
   simp at c0 c1 c2 c3
   obtain⟨⟨r0,r1,r2,r3⟩,s0,s1,s2,s3⟩:=H.out.2.2
   have r0':=hg.cell r0 (by simp)
   have r1':=hg.cell r1 (by simp)
   have r2':=hg.cell r2 (by simp)
   have r3':=hg.cell r3 (by simp)
   have s0':=(hg.frozen_far ⟨N+1,0,none⟩ (by simp;omega) (by simp)).trans s0
   have s1':=(hg.frozen_far ⟨N+1,1,none⟩ (by simp;omega) (by simp)).trans s1
   have s2':=(hg.frozen_far ⟨N+1,2,none⟩ (by simp;omega) (by simp)).trans s2
   have s3':=(hg.frozen_far ⟨N+1,3,none⟩ (by simp;omega) (by simp)).trans s3
   clear hr hg r0 r1 r2 r3 s0 s1 s2 s3
   go_wp2
   refine bodyPost_ret (v:=.agg #[Value.int .i64 (nxF G ks t i 0),Value.int .i64 (nxF G ks t i 1),Value.int .i64 (nxF G ks t i 2),Value.int .i64 (nxF G ks t i 3)]) (by simp[results,Try.results130,go_sem, *]) rfl ⟨rfl,?_⟩
   have hb:=H.out.1.grown HK.out.2 (by omega) (fun k hk=>by cases hk;omega)
   subst hN
   exact zb1 (zb1 (zb1 (zb1 hb (by simp) _) (by simp) _) (by simp) _) (by simp) _
end
section
open Go.RowKit Go.Shelf Go.Maps
def nzc (s:Nat→Int):Nat→Nat
 | 0=>0
 | m+1=>nzc s m+(if s m=0 then 0 else 1)
theorem nzc_le (s:Nat→Int)(m:Nat):nzc s m≤m:=by
 induction m with
 | zero=>exact Nat.le_refl _
 | succ m ih=>simp only[nzc];split<;>omega
theorem nzc_congr {s s':Nat→Int}{m:Nat}(h:∀j,j<m→s j=s' j):nzc s m=nzc s' m:=by
 induction m with
 | zero=>rfl
 | succ m ih=>simp only[nzc];rw[ih (fun j hj=>h j (by omega)),h m (by omega)]
theorem nzc_set {s:Nat→Int}{m j:Nat}{x:Int}(hj:j<m)(h0:s j=0)(hx:x≠0):nzc (fun i=>if i=j then x else s i) m=nzc s m+1:=by
 induction m with
 | zero=>omega
 | succ m ih=>
  simp only[nzc]
  by_cases e:j=m
  ·subst e
   rw[nzc_congr (s':=s) (fun i hi=>by simp[show i≠j by omega])]
   simp[h0,hx]
  ·rw[ih (by omega)]
   simp[show m≠j by omega];omega
structure OR (W:World)(N S m:Nat)(qv:Value)(qs:List Nat)(s:Nat→Int):Prop where
 own:W.ownsRow N 3 1 qv qs.length (qs.map fun (q:Nat)=>Value.int .i64 (q:Int))
 row:zb7 W S m s
 sv:∀j,j<m→s j=0∨s j=1∨s j=-1
 qlt:∀q∈qs,q<m
 qnz:∀q∈qs,s q≠0
 cnt:qs.length≤nzc s m
 ne:qv.ownBlock≠some S
 lo:N≤S
theorem OR.kept {W W':World}{N S m:Nat}{qv:Value}{qs:List Nat}{s:Nat→Int}(h:OR W N S m qv qs s)(hg:W.grownBy W' none):OR W' N S m qv qs s:=
 ⟨h.own.kept hg (by cases qv.ownBlock<;>simp),za3 h.row hg (by simp),h.sv,h.qlt,h.qnz,h.cnt,h.ne,h.lo⟩
theorem OR.qcell {W:World}{N S m:Nat}{qv:Value}{qs:List Nat}{s:Nat→Int}(h:OR W N S m qv qs s){k:Nat}(hk:k<qs.length):∃g cap,qv=.slice (some ⟨g,0,none⟩) qs.length cap∧W.cell? ⟨g,k,none⟩=some (.int .i64 (qs[k]:Nat))∧qs[k]<m:=by
 obtain⟨g,cap,hv,hb,hg⟩:=h.own.form (by omega)
 refine⟨g,cap,hv,?_,h.qlt _ (List.getElem_mem hk)⟩
 have:=h.own.cells (g:=g) (by rw[hv];rfl) k (.int .i64 (qs[k]:Nat)) (by simp[hk])
 rwa [Addr.add_mid,Nat.zero_add] at this
theorem P84_index (p:Nat→Int)(k:Nat)(hk:k<4)(w:World):(Instr.index 84 (.agg #[.int .i64 (p 0),.int .i64 (p 1),.int .i64 (p 2),.int .i64 (p 3)]) (.int .i64 (k:Int))).run Try.prog w=.ok (.int .i64 (p k)) w:=
 run_index_cell (n:=4) (d:=.int .i64) (by kernel_rfl) Try.underlying3 rfl (by kernel_rfl) _ _ _ hk _ (P4_get _ _ hk) w
theorem nxF_lt {G:Gl}{ks:List Nat}{t i f:Nat}(hm:0<ks.length):nxF G ks t i f=-1∨∃j:Nat,nxF G ks t i f=j∧j<ks.length:=by
 unfold nxF
 split
 ·right
  refine⟨_,rfl,?_⟩
  unfold plD
  split
  ·simp;rename_i h;exact List.idxOf_lt_length_of_mem h.2
  ·simpa using hm
 ·exact .inl rfl
theorem ok_valid {G:Gl}(h:za9 G=true){k:Nat}(hk:k<4*G.n)(ht:¬G.tet k<0):zc9 (G.p k)=true:=by
 simp only[za9,Bool.and_eq_true,List.all_eq_true,List.mem_range] at h
 have h1:=h.2 k hk
 simp only[okB,Bool.or_eq_true,Bool.and_eq_true,noneB,beq_iff_eq,inTetB,decide_eq_true_eq] at h1
 rcases h1 with h1 | h1
 ·omega
 ·exact h1.1.1.2
theorem SignI_valid {p:Nat→Int}(h:zc9 p=true):SignI p=1∨SignI p=-1:=by
 unfold SignI;rw[if_pos h];exact sg_pm
theorem za4 {w:World}{a:Addr}{v:Value}(h:w.cell? a=some v):∀o,(w.alloc o).cell? a=some v:=fun o=>(World.grownBy_alloc w o none).cell h (by simp)
theorem OR.push {W W1 W2 w1:World}{N S m g cap:Nat}{qv:Value}{qs:List Nat}{s:Nat→Int}(h:OR W N S m qv qs s){j:Nat}(hj:j<m)(h0:s j=0){x:Int}(hx:x=1∨x=-1)
  (hW1:W1=W.setCell ⟨S,j,none⟩ (.int .i64 x)) (hg:W1.grownBy W2 none)
  (a1:w1.ownsRow N 3 1 (.slice (some ⟨g,0,none⟩) (qs.length+1) cap) (qs.length+1) ((qs.map fun (q:Nat)=>Value.int .i64 (q:Int))++[.int .i64 (j:Int)]))
  (a2:W2.grownBy w1 qv.ownBlock) (a3:qv.ownBlock=some g∨W2.heap.size≤g) :
  OR w1 N S m (.slice (some ⟨g,0,none⟩) (qs.length+1) cap) (qs++[j]) (fun i=>if i=j then x else s i):=by
 have hS:=h.row.lt
 have h1:W1.rowIs S 3 m (fun i=>.int .i64 (if i=j then x else s i)):=by
  rw[hW1];exact (h.row.set j _).congr (fun i _=>by by_cases e:i=j<;>simp[e])
 have hs1:W1.heap.size=W.heap.size:=by rw[hW1];simp
 have hs2:=hg.size
 refine⟨?_,za3 (za3 h1 hg (by simp)) a2 (fun q=>h.ne q.symm),fun i hi=>?_,fun q hq=>?_,fun q hq=>?_,?_,?_,h.lo⟩
 ·simpa using a1
 ·by_cases e:i=j
  ·simp only[e,if_true];exact .inr hx
  ·simp only[e,if_false];exact h.sv i hi
 ·rcases List.mem_append.1 hq with q1 | q1
  ·exact h.qlt q q1
  ·simp at q1;omega
 ·rcases List.mem_append.1 hq with q1 | q1
  ·by_cases e:q=j
   ·simp only[e,if_true];omega
   ·simp only[e,if_false];exact h.qnz q q1
  ·simp at q1;simp only[q1,if_true];omega
 ·rw[nzc_set hj h0 (by omega)]
  have:=h.cnt
  simp;omega
 ·simp only[Value.ownBlock,ne_eq,Option.some.injEq]
  intro e
  rcases a3 with q | q
  ·exact h.ne (e▸q)
  ·omega
theorem orientable_walk (G:Gl)(B L:Nat)(lv:Value)(mb:Nat)(v:Value)(ks:List Nat)(hks:∀k∈ks,k<4*G.n)(w:World)(B0:Nat)(hB0:B0≤w.heap.size)(hG:GlAt B0 w v G)(hok:za9 G=true)(hL:LK w B L lv mb v ks)(hlen:ks.length≤4000) :
  Calls Try.prog 125 #[.pointer (some ⟨L,0,none⟩)] w fun e w'=>(∃b,e=.returned (.bool b))∧Below w.heap.size w w':=by
 obtain⟨m,hm⟩:∃m,m=ks.length:=⟨_,rfl⟩
 have hmk:=run_make_row' (P:=Try.prog) 35 3 (.int .i64 0) 8 und35 info3 rfl .i64 .i64 m (by omega) (by omega)
 obtain⟨ga,cp,hlv⟩:=za8 hL.own
 have l1:=hL.c1
 rw[hlv,←hm] at l1
 have HL:=Lib.hid hL;clear hL
 have HG:=Lib.hid hG;clear hG
 have HOK:=Lib.hid hok;clear hok
 have HKS:=Hd3 hks hm hlv;clear hks
 have hm4:m≤4000:=by omega
 clear hm hlv
 go_enter Try.func125,Try.ntmps125
 go_wp2
 refine zb3 fun W1 hW=>?_
 have hr:zb7 W1 w.heap.size m (fun _=>0):=hW▸World.rowIs_made w (.int .i64 0) m 3
 have hB:Below w.heap.size w W1:=by rw[hW];(repeat' (first | assumption | exact Below.refl _ _ | refine za7 ?_ (by assumption) | refine zb2 ?_ _ | refine za5 ?_ | refine zb1 ?_ (by simp<;>omega) _))
 clear hW hmk
 generalize hN:w.heap.size=N at *
 have H:=Hd2 hr hB;clear hr hB
 go_loopw [19] (fun i wr=>∃k:Nat,k≤m∧i=.int .i64 k∧(∃s,zb7 wr N m s∧∀j,j<m→s j=0∨s j=1∨s j=-1)∧Below N w wr) (fun i _=>m-(intOf i).toNat)
 case atStart=>exact⟨0,by omega,rfl,⟨_,H.out.1,fun _ _=>.inl rfl⟩,H.out.2⟩
 case round=>
  obtain⟨k0,hk0,rfl,⟨s,hr,hsv⟩,hB⟩:=hrel
  have HK:=Hd3 hr hsv hB
  rcases Nat.lt_or_ge k0 m with hlt | hge
  ·have ck:=hr.cell hlt
   have fk:=hr.frozen k0
   have hNr:=hr.lt
   clear hr hsv hB
   by_cases hz:s k0=0
   ·have HZ:=Lib.hid hz
    rw[hz] at ck
    clear hz
    go_wp2_with fail
    have hOR:∀W2,W2=(wr.setCell ⟨N,k0,none⟩ (.int .i64 1)).alloc (.cells #[.int .i64 (k0:Int)] 3)→OR W2 N N m (.slice (some ⟨wr.heap.size,0,none⟩) 1 1) [k0] (fun i=>if i=k0 then 1 else s i)∧Below N w W2:=by
     rintro W2 rfl
     obtain⟨hr,hsv,hB⟩:=HK.out
     refine⟨⟨⟨by simp,.inr ⟨wr.heap.size,1,#[.int .i64 (k0:Int)],rfl,by omega,by have:=heap_alloc_new (wr.setCell ⟨N,k0,none⟩ (.int .i64 1)) (.cells #[.int .i64 (k0:Int)] 3);simpa using this,Nat.le_refl _,by unfold maxLen;omega,rfl,rfl⟩⟩,((hr.set k0 _).congr (fun i _=>by by_cases e:i=k0<;>simp[e])).alloc _,fun j hj=>?_,by simpa using hlt,by simp,?_,by simp[Value.ownBlock];omega,Nat.le_refl _⟩,(hB.setCell (Nat.le_refl _) _).alloc (by simp;omega) _⟩
     ·by_cases e:j=k0
      ·simp[e]
      ·simp only[e,if_false];exact hsv j hj
     ·rw[nzc_set hlt HZ.out (by omega)];simp
    generalize hW2:(wr.setCell ⟨N,k0,none⟩ (.int .i64 1)).alloc (.cells #[.int .i64 (k0:Int)] 3)=W2 at *
    have HO:=Lib.hid (hOR W2 rfl)
    clear hOR hW2
    go_loopw [5,6] (fun q i wr=>∃(k:Nat) (qs:List Nat) (s:Nat→Int),i=.int .i64 k∧OR wr N N m q qs s∧k≤qs.length∧Below N w wr) (fun _ i _=>m-(intOf i).toNat)
    case atStart=>exact⟨0,_,_,rfl,HO.out.1,by simp,HO.out.2⟩
    case round=>
     clear HO W2 HZ HK ck fk s
     obtain⟨k,qs,s,rfl,hO,hkq,hB⟩:=hrel
     have hNr2:N<wr.heap.size:=hO.row.lt
     have hqm:qs.length≤m:=Nat.le_trans hO.cnt (nzc_le s m)
     obtain⟨gq,cq,rfl⟩:=za8 hO.own
     obtain⟨lq,hlq⟩:∃l,l=qs.length:=⟨_,rfl⟩
     rw[←hlq] at hkq hqm hO ⊢
     have HQ:=Hd3 hlq hO hB
     rcases Nat.lt_or_ge k lq with hkl | hkl
     ·obtain⟨g,cap,hv,hcq,hjm⟩:=hO.qcell (k:=k) (by omega)
      obtain⟨rfl,_,rfl⟩:gq=some ⟨g,0,none⟩∧lq=qs.length∧cq=cap:=by simpa using hv
      have hL2:=HL.out.below (hN▸hB:Below w.heap.size w wr)
      obtain⟨hks,hm,hlv⟩:=HKS.out
      have hqk:qs[k]<ks.length:=by omega
      obtain⟨kk,hkk⟩:∃kk,ks[qs[k]]?=some kk:=⟨_,List.getElem?_eq_getElem hqk⟩
      clear hqk
      have hkk4:kk<4*G.n:=hks kk (List.mem_of_getElem? hkk)
      obtain⟨j,hj⟩:∃j,j=qs[k]:=⟨_,rfl⟩
      have hqj:qs[k]?=some j:=by rw[hj];exact List.getElem?_eq_getElem _
      rw[←hj] at hcq hjm hkk
      clear hj
      have hlm:0<ks.length:=by omega
      obtain⟨gl,cl,hgl,_,_⟩:=hL2.own.form hlm
      obtain⟨rfl,rfl⟩:ga=some ⟨gl,0,none⟩∧cp=cl:=by rw[hlv] at hgl;simpa using hgl
      have hjl:j<ks.length:=by omega
      have hcc:=crs_get ks j hjl
      have hkj:ks[j]=kk:=by rw[List.getElem?_eq_getElem hjl] at hkk;simpa using hkk
      rw[hkj] at hcc
      have b0:=hL2.own.cells (g:=gl) (by rw[hlv];rfl) _ _ hcc.1
      have b1:=hL2.own.cells (g:=gl) (by rw[hlv];rfl) _ _ hcc.2
      rw[Addr.add_mid,Nat.zero_add] at b0 b1
      obtain⟨t,i,ht,hi,rfl⟩:∃t i,t<G.n∧i<4∧kk=4*t+i:=⟨kk / 4,kk % 4,by omega,by omega,by omega⟩
      rw[show (4*t+i) / 4=t by omega,show 2*j=j*2 by omega] at b0
      rw[show (4*t+i) % 4=i by omega,show 2*j+1=j*2+1 by omega] at b1
      have l1':=hL2.c1
      rw[hgl,←hm] at l1'
      have j0:0≤(j:Int):=by omega
      have jm:(j:Int)<(m:Int):=by omega
      have k0':0≤(k:Int):=by omega
      have kl':(k:Int)<(lq:Int):=by omega
      have HL2:=Hd5 hL2 hqj hm hlv hgl
      clear hO hB hL2 hks hm hlv hv hlq hcc hkj hkk hgl hqj
      go_wp2
      have hcqa:=za4 hcq
      have b0a:=za4 b0
      have b1a:=za4 b1
      have l1a:=za4 l1'
      go_region
      clear hcqa b0a b1a l1a
      have hq1:=HQ.out
      have hF:∀W3,W3=(wr.alloc (.cells #[.int .i64 (t:Int),.int .i64 (i:Int)] 207)).drew→OR W3 N N m (.slice (some ⟨g,0,none⟩) lq cq) qs s∧Below N w W3∧W3.cell? ⟨wr.heap.size,0,none⟩=some (.int .i64 (t:Int))∧W3.cell? ⟨wr.heap.size,1,none⟩=some (.int .i64 (i:Int))∧wr.heap.size<W3.heap.size∧g<wr.heap.size∧LK W3 B L lv mb v ks:=by
       rintro W3 rfl
       have hal:=World.grownBy_alloc wr (.cells #[.int .i64 (t:Int),.int .i64 (i:Int)] 207) none
       refine⟨(HQ.out.2.1.kept hal).kept (zb0 _ _),za5 (HQ.out.2.2.alloc (by omega) _),by simp[go_sem],by simp[go_sem],by simp,za0 hcq,(HL2.out.1.below ((Below.refl _ _).alloc (Nat.le_refl _) _)).below (za5 (Below.refl _ _))⟩
      generalize hW3:(wr.alloc (.cells #[.int .i64 (t:Int),.int .i64 (i:Int)] 207)).drew=W3 at *
      obtain⟨hO,hB,x0,x1,hs,hgs,hL3⟩:=hF W3 rfl
      generalize hA7:wr.heap.size=A7 at *
      have HA:=Hd3 hO hB hL3
      clear hF hO hB hL3 hq1 hA7 hW3
      go_wp2_with (go_at_call 130;refine (next_walk G B L lv mb v ks t i ht hi _ B0 (by have:=HA.out.2.1.size;omega) (HG.out.below (HA.out.2.1.mono hB0)) HOK.out HA.out.2.2).mono ?_;rintro e W4 ⟨rfl,hb⟩;have HB:=Lib.hid hb;have x0':=(hb.cell (p:=⟨A7,0,none⟩) hs).trans x0;have x1':=(hb.cell (p:=⟨A7,1,none⟩) hs).trans x1;clear hb)
      have hlqe:=HQ.out.1
      have hqk:=HL2.out.2.1
      have hmk:=HL2.out.2.2.1
      have hS4:OR W4 N N m (.slice (some ⟨g,0,none⟩) qs.length cq) qs s∧Below N w W4:=by
       have hb:=HB.out
       refine⟨?_,HA.out.2.1.trans (hb.mono (by have:=HA.out.2.1.size;omega))⟩
       have:=HA.out.1.kept (za6 hb (Nat.le_refl _) none)
       rwa [hlqe] at this
      have H4:=Hd4 hS4 hqk hlqe hmk
      clear hS4 hqk hlqe hmk
      go_loopw [51,5] (fun i' q wr=>∃(f:Nat) (qs':List Nat) (s':Nat→Int),f≤4∧i'=.int .i64 f∧OR wr N N m q qs' s'∧qs'[k]?=some j∧Below N w wr∧wr.cell? ⟨A7,0,none⟩=some (.int .i64 (t:Int))∧wr.cell? ⟨A7,1,none⟩=some (.int .i64 (i:Int))∧q.ownBlock≠some A7) (fun i _ _=>4-(intOf i).toNat)
      case atStart=>exact⟨0,qs,s,by omega,rfl,H4.out.1.1,H4.out.2.1,H4.out.1.2,x0',x1',by simp[Value.ownBlock];omega⟩
      case round=>
       obtain⟨f,qs',s',hf,rfl,hO,hqj,hBr,y0,y1,hne7⟩:=hrel
       have HR:=Hd4 hO hqj hBr hne7
       rcases Nat.lt_or_ge f 4 with hlf | hgf
       ·have f4:(f:Int)<4:=by omega
        have f0:0≤(f:Int):=by omega
        have hix:=fun w=>P84_index (nxF G ks t i) f hlf w
        have hk:4*t+f<4*G.n:=by omega
        have hmk:=H4.out.2.2.2
        rcases nxF_lt (G:=G) (ks:=ks) (t:=t) (i:=i) (f:=f) (by omega) with hx | ⟨jj,hx,hjj⟩
        ·rw[hx] at hix
         clear hO hqj hBr hne7 hmk hx
         go_wp2
         go_roundw
         case rel=>exact⟨f+1,qs',s',by omega,rfl,HR.out.1,HR.out.2.1,HR.out.2.2.1,y0,y1,HR.out.2.2.2⟩
         case measure=>simp[intOf];omega
        ·have hneg:¬G.tet (4*t+f)<0:=fun q=>by
          have:nxF G ks t i f=-1:=by unfold nxF;rw[if_neg (fun z=>z.2 q)]
          omega
         rw[hx] at hix
         have hjm':jj<m:=by omega
         clear hmk hx hjj
         go_wp2
         have hO:=HR.out.1
         have hkl2:=(List.getElem?_eq_some_iff.1 HR.out.2.1).1
         have hkj2:=(List.getElem?_eq_some_iff.1 HR.out.2.1).2
         obtain⟨g',cap',hu5,cq',_⟩:=hO.qcell hkl2
         rw[hkj2] at cq'
         have cs:=hO.row.cell hjm
         have cjj:=hO.row.cell hjm'
         have fjj:=hO.row.frozen jj
         have hnz:=hO.qnz j (List.mem_of_getElem? HR.out.2.1)
         have hsv:=hO.sv j hjm
         have hsv2:=hO.sv jj hjm'
         have hLr:=HL.out.below (hN▸HR.out.2.2.1:Below w.heap.size w wr)
         have cL:=hLr.c0
         have hGr:=HG.out.below (HR.out.2.2.1.mono hB0)
         obtain⟨a,b,off,cap,rfl,hga,hc⟩:=hGr
         obtain⟨rfl,hbB⟩:=hga (by omega)
         obtain⟨_,hp⟩:=hc (4*t+f) hk
         have ea:∀o,off+5*(4*t+f)+1+o=off+t*20+f*5+1+o:=fun o=>by omega
         have p0:=hp 0 (by omega)
         have p1:=hp 1 (by omega)
         have p2:=hp 2 (by omega)
         have p3:=hp 3 (by omega)
         rw[ea] at p0 p1 p2 p3
         rw[Nat.add_zero] at p0
         have hsg:=SignI_valid (ok_valid HOK.out hk (by omega))
         obtain⟨SG,hSG⟩:∃x,SignI (G.p (4*t+f))=x:=⟨_,rfl⟩
         rw[hSG] at hsg
         have HSG:=Lib.hid hSG
         obtain⟨len',hlen'⟩:∃l,l=qs'.length:=⟨_,rfl⟩
         rw[←hlen'] at hu5 hkl2
         have HLEN:=Lib.hid hlen'
         subst hu5
         have lg:=za0 cq'
         have lL:=za0 cL
         have lb:=za0 p0
         have lA:=za0 y0
         have lN:=za0 cs
         simp only at lg lL lb lA lN
         obtain⟨X,hX⟩:∃x,s' j=x:=⟨_,rfl⟩
         rw[hX] at cs hnz hsv
         have hX1:X=1∨X=-1:=by omega
         obtain⟨Y,hY⟩:∃y,y=-X:=⟨_,rfl⟩
         obtain⟨Z,hZ⟩:∃z,z=Y*SG:=⟨_,rfl⟩
         have hZ1:Z=1∨Z=-1:=by rcases hX1 with rfl | rfl<;>rcases hsg with rfl | rfl<;>subst hY<;>subst hZ<;>decide
         have qY:IntKind.i64.wrap (-X)=Y:=by rw[IntWalk.i64_in _ (by omega)];exact hY.symm
         have qZ:IntKind.i64.wrap (Y*SG)=Z:=by rw[←hZ,IntWalk.i64_in _ (by omega)]
         have j0':0≤(j:Int):=by omega
         have hjm3:(j:Int)<(m:Int):=by omega
         have hkl3:(k:Int)<(len':Int):=by omega
         have tn:(t:Int)<(G.n:Int):=by omega
         have t0:0≤(t:Int):=by omega
         clear hO hkj2 hnz hsv hLr hga hc hp ea hbB hSG hlen' hX hY hZ hX1 hsg hneg hix
         go_region_held3 (fun w'=>w'.cell? ⟨g',k,none⟩=some (.int .i64 (j:Int))∧w'.cell? ⟨N,j,none⟩=some (.int .i64 X)∧w'.cell? ⟨L,0,none⟩=some (.slice (some ⟨b,off,none⟩) G.n cap)∧w'.cell? ⟨A7,0,none⟩=some (.int .i64 (t:Int))∧w'.cell? ⟨b,off+t*20+f*5+1,none⟩=some (.int .i64 (G.pm (4*t+f) 0))∧w'.cell? ⟨b,off+t*20+f*5+1+1,none⟩=some (.int .i64 (G.pm (4*t+f) 1))∧w'.cell? ⟨b,off+t*20+f*5+1+2,none⟩=some (.int .i64 (G.pm (4*t+f) 2))∧w'.cell? ⟨b,off+t*20+f*5+1+3,none⟩=some (.int .i64 (G.pm (4*t+f) 3)))
          (first
           | exact⟨cq',cs,cL,y0,p0,p1,p2,p3⟩
           | exact⟨(hb.cell (p:=⟨g',k,none⟩) (by exact lg)).trans cq',(hb.cell (p:=⟨N,j,none⟩) (by exact lN)).trans cs,(hb.cell (p:=⟨L,0,none⟩) (by exact lL)).trans cL,(hb.cell (p:=⟨A7,0,none⟩) (by exact lA)).trans y0,(hb.cell (p:=⟨b,_,none⟩) (by exact lb)).trans p0,(hb.cell (p:=⟨b,_,none⟩) (by exact lb)).trans p1,(hb.cell (p:=⟨b,_,none⟩) (by exact lb)).trans p2,(hb.cell (p:=⟨b,_,none⟩) (by exact lb)).trans p3⟩)
          (first|(go_at_call 43;refine (Sign_walk (G.p (4*t+f)) _).mono ?_;rintro e w1 ⟨he,hb⟩;rw[HSG.out] at he;subst he))
         have hOw:OR w1 N N m (.slice (some ⟨g',0,none⟩) len' cap') qs' s':=(HR.out.1.kept (zb0 _ _)).kept (za6 hb (Nat.le_refl _) none)
         have hBw:Below N w w1:=(za5 HR.out.2.2.1).trans (hb.mono (by simp;omega))
         have z0:=(hb.cell (p:=⟨A7,0,none⟩) (by exact lA)).trans y0
         have z1:=(hb.cell (p:=⟨A7,1,none⟩) (by exact lA)).trans y1
         have cjw:=hOw.row.cell hjm'
         have fjw:=hOw.row.frozen jj
         have HW:=Hd4 hOw hBw z0 z1
         have lAw:=za0 z0
         have lNw:=za0 cjw
         simp only at lAw lNw
         clear hOw hBw cq' cs cjj fjj cL p0 p1 p2 p3 lg lL lb lA lN y0 y1 qY qZ hb
         have jj0:0≤(jj:Int):=by omega
         have jjm:(jj:Int)<(m:Int):=by omega
         by_cases hz0:s' jj=0
         ·rw[hz0] at cjw
          have HZ0:=Lib.hid hz0
          clear hz0 hsv2
          obtain⟨i0,hi0,hz0,hz1,hz2⟩:=info_parts info3
          have ownA:((w1.setCell ⟨N,jj,none⟩ (.int .i64 Z)).alloc (.cells #[.int .i64 (jj:Int)] 3)).ownsRow N 3 1 (.slice (some ⟨g',0,none⟩) len' cap') len' (qs'.map fun (q:Nat)=>Value.int .i64 (q:Int)):=by
           have h:=HW.out.1.own
           rw[←HLEN.out] at h
           exact (h.kept (za1 w1 N jj (.int .i64 Z)) (.inr HW.out.1.ne)).alloc _
          have newsA:∀(j:Nat) (u:Value),[Value.int .i64 (jj:Int)][j]?=some u→((w1.setCell ⟨N,jj,none⟩ (.int .i64 Z)).alloc (.cells #[.int .i64 (jj:Int)] 3)).cell? ((⟨w1.heap.size,0,none⟩:Addr).add j)=some u:=
           World.news_of_block (cs:=#[.int .i64 (jj:Int)]) (by have:=heap_alloc_new (w1.setCell ⟨N,jj,none⟩ (.int .i64 Z)) (.cells #[.int .i64 (jj:Int)] 3);simpa using this)
          have hsA:((w1.setCell ⟨N,jj,none⟩ (.int .i64 Z)).alloc (.cells #[.int .i64 (jj:Int)] 3)).heap.size=w1.heap.size+1:=by simp
          have hlA:len'≤4000:=by have:=HW.out.1.cnt;have:=nzc_le s' m;have:=HLEN.out;omega
          have OWN:=Hd2 ownA newsA;have HSA:=Lib.hid hsA;clear ownA newsA hsA
          go_wp2_with (at_builtin;refine (wpList_append_lies _ rfl (.tmp 88) (.tmp 90) 35 rfl N 3 i0 _ 1 8 und35 hi0 hz0 hz1 hz2 rfl (by omega) (.slice (some ⟨g',0,none⟩) len' cap') len' _ rfl OWN.out.1 ⟨w1.heap.size,0,none⟩ 1 1 [.int .i64 (jj:Int)] rfl rfl OWN.out.2 (by simp[Value.oneCell']) (by omega) (by unfold maxLen;omega) (by omega) (by rw[HSA.out];omega) (w1.heap.size+1) HSA.out ?_);intro g2 cap2 w2 hown1 hgrow hat hlt2;have HA2:=Hd3 hown1 hgrow hat;clear hown1 hgrow hat hlt2)
          have hl:=HLEN.out
          obtain⟨A1,A2,A3⟩:=HA2.out
          rw[hl] at A1 A2 A3
          have hne7:=HR.out.2.2.2
          have hlo:=(HW.out.1.own.lt g' rfl).1
          have hP:=OR.push HW.out.1 hjm' HZ0.out hZ1 rfl (World.grownBy_alloc _ _ none) A1 A2 (A3.imp id (fun q=>by rw[HSA.out];omega))
          have y0':=A2.cell (za4 ((za1 w1 N jj (.int .i64 Z)).cell HW.out.2.2.1 (by simp;omega)) _) (fun q=>hne7 q.symm)
          have y1':=A2.cell (za4 ((za1 w1 N jj (.int .i64 Z)).cell HW.out.2.2.2 (by simp;omega)) _) (fun q=>hne7 q.symm)
          refine⟨⟨f+1,qs'++[jj],_,by omega,rfl,by rw[hl];exact hP,?_,?_,y0',y1',?_⟩,by simp[intOf];omega⟩
          ·have h:=HR.out.2.1
           rw[List.getElem?_append_left (List.getElem?_eq_some_iff.1 h).1];exact h
          ·refine Below.grown ((HW.out.2.1.setCell (Nat.le_refl _) _).alloc (by simp;omega) _) A2 (by simp;omega) (fun k hk=>?_)
           simp[Value.ownBlock] at hk;omega
          ·simp only[Value.ownBlock,ne_eq,Option.some.injEq]
           intro e
           rcases A3 with q | q
           ·exact hne7 (by rw[←e];exact q)
           ·omega
         ·have hzz:(s' jj==0)=false:=by simpa using hz0
          generalize s' jj=sj at *
          clear hz0 hsv2
          by_cases hzs:sj=Z
          ·have hq:(sj !=Z)=false:=by simp[hzs]
           clear hzs
           go_wp2
           go_roundw
           case rel=>exact⟨f+1,qs',s',by omega,rfl,HW.out.1,HR.out.2.1,HW.out.2.1,HW.out.2.2.1,HW.out.2.2.2,HR.out.2.2.2⟩
           case measure=>simp[intOf];omega
          ·have hq:(sj !=Z)=true:=by simpa using hzs
           clear hzs
           go_wp2
           go_ret
           exact⟨⟨_,rfl⟩,hN▸HW.out.2.1⟩
       ·obtain rfl:f=4:=by omega
        clear hO hqj hBr hne7
        go_wp2
        go_roundw
        case rel=>exact⟨k+1,qs',s',rfl,HR.out.1,by have:=(List.getElem?_eq_some_iff.1 HR.out.2.1).1;omega,HR.out.2.2.1⟩
        case measure=>simp[intOf];omega
     ·clear hO hB
      go_wp2
      go_roundw
      case rel=>exact⟨k0+1,by omega,rfl,⟨s,HQ.out.2.1.row,HQ.out.2.1.sv⟩,HQ.out.2.2⟩
      case measure=>simp[intOf];omega
   ·have hz':(s k0 !=0)=true:=by simpa using hz
    generalize s k0=sv at *
    clear hz
    go_wp2
    go_roundw
    case rel=>exact⟨k0+1,by omega,rfl,⟨s,HK.out.1,HK.out.2.1⟩,HK.out.2.2⟩
    case measure=>simp[intOf];omega
  ·obtain rfl:k0=m:=by omega
   clear hr hsv hB
   go_wp2
   go_ret
   exact⟨⟨_,rfl⟩,hN▸HK.out.2.2⟩
end
section
open Go.RowKit Go.Shelf
theorem run_equal_P4r (d:Nat)(a0 a1 a2 a3:Int)(w:World):(Op.equalIn (d+1+1) 85 (.agg #[.int .i64 a0,.int .i64 a1,.int .i64 a2,.int .i64 a3]) (.agg #[.int .i64 a0,.int .i64 a1,.int .i64 a2,.int .i64 a3])).run Try.prog w=.ok true w:=by
 rw[run_equal_P4];simp
end
end Go.Proofs.Ytlckpgahijlmoaa
