/- group's Of: what lies in memory between the edges. No condition. -/
import Derived.Test.YtlckpgahijlmoaaQ46
import Derived.Test.YtlckpgahijlmoaaQ15
set_option maxRecDepth 100000
set_option maxHeartbeats 8000000
namespace Go.Proofs.Ytlckpgahijlmoaa
section
open Go.RowKit Go.Shelf Go.Maps
attribute [local go_sem] Oper.semAt_some
structure OB (W0:World)(Mb:Nat)(mt:Nat×Nat→Bool)(W:World):Prop where
 g:W0.grownBy W (some Mb)
 map:∃nn,MapIs W 82 okp kp bv Mb nn (mD mt)
section
variable {W0 W W':World}{N H Mb:Nat}{mt:Nat×Nat→Bool}
theorem OB.fresh {row:Option Nat}(hM:Mb<W0.heap.size)(h:OB W0 Mb mt W)(hg:W.grownBy W' row)(hr:∀r,row=some r→W0.heap.size≤r):OB W0 Mb mt W':=by
 obtain⟨nn,hm⟩:=h.map
 refine⟨⟨hg.os.trans h.g.os,hg.tape.trans h.g.tape,hg.output.trans h.g.output,Nat.le_trans h.g.size hg.size,fun k hk hk2=>(hg.block k (Nat.lt_of_lt_of_le hk h.g.size) (fun e=>by have:=hr k e.symm;omega)).trans (h.g.block k hk hk2)⟩,nn,hm.kept hg (fun e=>by have:=hr Mb e.symm;omega)⟩
theorem OB.meet (h:OB W0 Mb mt W)(hg:W.grownBy W' (some Mb)){mt':Nat×Nat→Bool}(hm:∃nn,MapIs W' 82 okp kp bv Mb nn (mD mt')):OB W0 Mb mt' W':=⟨za2 h.g hg,hm⟩
theorem OB.spare (h:OB W0 Mb mt W)(hH:H<W0.heap.size)(hHM:H≠Mb)(hN:N≤H)(hNM:N≤Mb)(hg:W.grownBy W' (some Mb)):zg8 H H N W W':=by
 have hs:=h.g.size
 have nH:some H≠some Mb:=by simpa using hHM
 refine spare2_of ((Below.refl N W).grown hg (by omega) (fun k e=>by cases e;exact hNM)) (fun k c t f hk h1 h2 _=>hg.block k (Array.getElem?_eq_some_iff.1 hk).1 (fun e=>?_)) (fun u hu i hi=>.inr ⟨u,(hg.cell_far ⟨H,0,none⟩ (Nat.lt_of_lt_of_le hH hs) nH).symm.trans hu,hi⟩)
 cases e
 obtain⟨nn,es,clock,hb,_⟩:=h.map
 rw[hb] at hk;cases hk
theorem OB.abides (hM:Mb<W0.heap.size){β:Type}(I:β→Nat×Nat→Bool):AbidesOk (fun W i=>zc3 H W i∧i≠H) (fun _=>False) W0.heap.size (fun (pre:β) W=>OB W0 Mb (I pre) W):=
 fun _pre _W _W' _row h hg hr=>h.fresh hM hg (fun r e=>(hr r e).1.resolve_right id)
theorem OB.own (hM:Mb<W0.heap.size){β:Type}(I:β→Nat×Nat→Bool):OwnFrom W0.heap.size (fun (pre:β) W=>OB W0 Mb (I pre) W):=
 fun _pre _W _W' _row h hg hr=>h.fresh hM hg (fun r e=>(hr r e).1)
end
def RVar3 {G:Gl}(A:Act)(K:Nat)(x:RKg G)(a':Act)(W:World):Prop:=
 ∃b,C5 W b x.1.1∧K≤b∧a'={ tmps:=((A.tmps.setIfInBounds 106 (.agg (zb6 x.1.1))).setIfInBounds 107 (.bool x.1.2)).setIfInBounds 20 (.pointer (some ⟨b,0,none⟩)),defers:=[] }
theorem RVar3.own {G:Gl}{A:Act}{K:Nat}{x:RKg G}{a':Act}:OwnFrom K (fun (_:Unit) W=>RVar3 A K x a' W):=fun _ X Y row h hg hr=>by
 obtain⟨b,hc,hb,e⟩:=h
 have hne:some b≠row:=fun q=>by
  obtain⟨o,ho,hcs⟩:=(hr b q.symm).2
  obtain⟨c,t,f,hh⟩:=zc7 hc.1
  rw[hh] at ho
  cases ho
  simp[Obj.isCells] at hcs
 exact⟨b,hc.kept hg hne,hb,e⟩
theorem back_walk {G:Gl}(hok:za9 G=true)(hr:∀i,i<nE G→revK G (6*G.n) i=false){s:RS}(hs:Rok G.n s){m:Nat}(hm:WalkN G s m){W:World}{N H Mb Mx Bf Bg:Nat}{v:Value}{mt:Nat×Nat→Bool}(hH:H<W.heap.size)(hMl:Mb<W.heap.size)(hHM:H≠Mb)(hNH:N≤H)(hNM:N≤Mb)(hgl:GlAt N W v G)
  (hmx:W.cell? ⟨Mx,0,none⟩=some (.map (some Mb))) (hM:∃nn,MapIs W 82 okp kp bv Mb nn (mD mt)) {wb:Bool} (hH0:W.cell? ⟨H,0,none⟩=some (.bool wb))
  (hf:C5 W Bf s) (hg:W.cell? ⟨Bg,0,none⟩=some v) (hB:Bf≠H∧Bg≠H)
  (tm:Array Value) (ds:List Deferred) (hsz:tm.size=130) (s10:tm[10]?=some (.pointer (some ⟨Mx,0,none⟩)))
  (s105:tm[105]?=some (.func (.func 110) #[] #[.pointer (some ⟨Bf,0,none⟩),.pointer (some ⟨Bg,0,none⟩)])) {Q:Exit→Act→World→Prop}
  (hdone:∀D W',W.heap.size≤D→W'.heap[D]?=some (.deferred (some []))→OB W Mb (mtB mt (pthB G s m)) W'→Q .normal { tmps:=tm,defers:={ target:=.collected D,args:=#[] } :: ds } W') :
  (kBack Try.f38).wp Try.prog Q { tmps:=tm,defers:=ds } W:=by
 refine of_range rfl ?_
 have HQ:=Lib.hid hdone
 have hnR:∀i,i≠H→zc3 H W i:=fun i hi=>⟨hi,fun x hx=>by rw[hH0] at hx;cases hx;simp[Value.ownBlock]⟩
 have hRI:=gring_iter hok hr hs 5 (by omega) v W N Bf Bg H H (by omega) hgl hf hg (hnR _ hB.1) (hnR _ hB.2) hB.1 hB.2 hH hH (fun x hx=>by rw[hH0] at hx;cases hx;simp[Value.ownBlock]) m hm
 have HRI:=Lib.hid hRI
 have hI0:OB W Mb (mtB mt []) W:=⟨zd2 _ _,by
  obtain⟨nn,hm⟩:=hM;exact⟨nn,hm.congr (fun p=>by unfold mD;rw[mtB_nil])⟩⟩
 have HI0:=Lib.hid hI0
 have nMx:Mx≠Mb:=fun q=>by
  subst q
  obtain⟨c,t,f,e⟩:=zc7 hmx
  obtain⟨nn,es,cl,hb,_⟩:=hM
  rw[hb] at e;cases e
 have HC:=Hd2 hok hmx
 obtain⟨u,hu,-⟩:=frame130 tm hsz
 subst hu
 have e10:u 10=.pointer (some ⟨Mx,0,none⟩):=Option.some.inj s10
 have e105:u 105=.func (.func 110) #[] #[.pointer (some ⟨Bf,0,none⟩),.pointer (some ⟨Bg,0,none⟩)]:=Option.some.inj s105
 have hNW:N≤W.heap.size:=by omega
 clear s10 s105 hdone hRI hI0 hM hH0 hf hg hB hok hr hmx hgl hnR
 refine act_named fun A hA=>?_
 refine (wpIn_wide (n:=6)).1 ?_
 refine zg4 (by omega) (gf:=110) (lb:=#[.pointer (some ⟨Bf,0,none⟩),.pointer (some ⟨Bg,0,none⟩)]) (by rw[hA];exact e105) (enters_of Try.func110 (by kernel_rfl) rfl) HRI.out (fun _ h=>h.elim) zg8.trans (fun W l r r' hl h=>spare2_put (by omega) (by omega) h) (Below.refl _ _) (fun _=>rfl)
  (fun (pre:List (RKg G)) W1=>OB W Mb (mtB mt (pre.map (·.1))) W1) (fun _ _=>False) (fun _ _ _=>trivial) (OB.own hMl (fun (pre:List (RKg G))=>mtB mt (pre.map (·.1)))) (fun _ _ _ _ h _ _=>h.elim) (OB.abides hMl (fun (pre:List (RKg G))=>mtB mt (pre.map (·.1)))) (fun _ _ _ _ h _ _=>h.elim)
  HI0.out (fun x a' W1=>RVar3 A W.heap.size x a' W1) (fun x a'=>RVar3.own) ?assign ?body ?done ?stop
 case stop=>
  rintro D pre W7 _ _ h _
  exact h.elim
 case done=>
  rintro D xs W7 hD hS hI hKD
  rw[hS] at hI
  rw[hA]
  exact HQ.out D W7 hD hKD hI
 case assign=>
  rintro l pre x W7 K hI hK
  have HK:=Lib.hid hK;clear hK
  have HI7:=Lib.hid hI;clear hI
  subst hA
  unfold encB zb6
  gi_wp2
  have hsz7:=HI7.out.g.size
  have hal:=World.grownBy_alloc W7 (.cells (zb6 x.1.1) 136) none
  exact HK.out _ _ (zg2 ((Below.refl _ W7).alloc (Nat.le_refl _) _)) (spare2_grown hal (by omega) (by omega)) (HI7.out.fresh hMl hal (fun r e=>by cases e)) ⟨W7.heap.size,C5.new W7 x.1.1 136,hsz7,by simp only[e10,e105];rfl⟩
 case body=>
  rintro l pre x a' W7 hl hI ⟨b,hc,hbK,ea⟩ hNb
  have hx:=x.2
  have HI7:=Lib.hid hI
  have hs7:=hI.g.size
  have cMx:=hI.g.cell HC.out.2 (by simpa using nMx)
  have ht:=hx.t
  obtain⟨nn,hmap⟩:=hI.map
  have HMAP:=Lib.hid hmap
  clear hI hmap
  have hed:=fun w=>gedge_walk x.1.1.2.1 x.1.1.2.2.1 hx.l.1 hx.l.2.1 hx.d.1 w
  have hee:eno (min x.1.1.2.1 x.1.1.2.2.1,max x.1.1.2.1 x.1.1.2.2.1)=edN x.1.1.2.1 x.1.1.2.2.1:=eno_edN _ hx.l.1 _ hx.l.2.1 hx.d.1
  rw[hee] at hed
  have hel:=edN_lt hx
  have HEQ:edq x.1.1=(x.1.1.1,edN x.1.1.2.1 x.1.1.2.2.1):=rfl
  clear hee
  obtain⟨⟨⟨t,i,j,f,q⟩,okb⟩,hxx⟩:=x
  simp only at hx hc ht hed hel HEQ
  obtain⟨c0,c1,c2,c3,c4⟩:=hc
  simp only at c0 c1 c2 c3 c4
  obtain⟨e,he⟩:∃e,e=edN i j:=⟨_,rfl⟩
  rw[←he] at hed hel HEQ
  have HED:=Hd2 hed HEQ
  clear he hed HEQ hx c3 c4
  subst hA
  unfold zb6 at ea
  simp only[e10,e105,List.setIfInBounds_toArray,List.set_cons_succ,List.set_cons_zero] at ea
  subst ea
  clear e10 e105
  gi_wp2_with fail
  have hHeld:=And.intro (show W7.drew.cell? ⟨Mx,0,none⟩=_ from cMx) (And.intro (show W7.drew.cell? ⟨b,0,none⟩=_ from c0) (And.intro (show W7.drew.cell? ⟨b,1,none⟩=_ from c1) (show W7.drew.cell? ⟨b,2,none⟩=_ from c2)))
  refine wpIn_region_until (fun w'=>w'.cell? ⟨Mx,0,none⟩=some (.map (some Mb))∧w'.cell? ⟨b,0,none⟩=some (.int .i64 (t:Int))∧w'.cell? ⟨b,1,none⟩=some (.int .i64 (i:Int))∧w'.cell? ⟨b,2,none⟩=some (.int .i64 (j:Int))) 9 (by kernel_rfl) (by kernel_rfl) ?_
  change wpAnyU _ _ _ _ _ _ 10 #[false,false,false,false,false,false,false,false,false,false] _ (World.drew _)
  refine wpAnyU.take (i:=0) (v:=?v0) rfl (by kernel_rfl) (fun _ _ _ h=>(by cases h.1)) (Or.inl ⟨by rfl,?yy0⟩) hHeld ?rr0
  case yy0=>
   intro w8 hSw
   obtain⟨s1,s2,s3,s4⟩:=hSw
   go_simp
   try with_reducible rfl
  simp only[Act.put,nrm]
  refine wpAnyU.take (i:=1) (v:=?v1) rfl (by kernel_rfl) (fun _ _ _ h=>(by cases h.1)) (Or.inl ⟨by rfl,?yy1⟩) hHeld ?rr1
  case yy1=>
   intro w8 hSw
   obtain⟨s1,s2,s3,s4⟩:=hSw
   go_simp
   try with_reducible rfl
  simp only[Act.put,nrm]
  refine wpAnyU.take (i:=2) (v:=?v2) rfl (by kernel_rfl) (fun _ _ _ h=>(by cases h.1)) (Or.inl ⟨by rfl,?yy2⟩) hHeld ?rr2
  case yy2=>
   intro w8 hSw
   obtain⟨s1,s2,s3,s4⟩:=hSw
   go_simp
   try with_reducible rfl
  simp only[Act.put,nrm]
  refine wpAnyU.take (i:=3) (v:=?v3) rfl (by kernel_rfl) (fun _ _ _ h=>(by cases h.1)) (Or.inl ⟨by rfl,?yy3⟩) hHeld ?rr3
  case yy3=>
   intro w8 hSw
   obtain⟨s1,s2,s3,s4⟩:=hSw
   go_simp
   try with_reducible rfl
  simp only[Act.put,nrm]
  refine wpAnyU.take (i:=4) (v:=?v4) rfl (by kernel_rfl) (fun _ _ _ h=>(by cases h.1)) (Or.inl ⟨by rfl,?yy4⟩) hHeld ?rr4
  case yy4=>
   intro w8 hSw
   obtain⟨s1,s2,s3,s4⟩:=hSw
   go_simp
   try with_reducible rfl
  simp only[Act.put,nrm]
  refine wpAnyU.take (i:=5) (v:=?v5) rfl (by kernel_rfl) (fun _ _ _ h=>(by cases h.1)) (Or.inl ⟨by rfl,?yy5⟩) hHeld ?rr5
  case yy5=>
   intro w8 hSw
   obtain⟨s1,s2,s3,s4⟩:=hSw
   go_simp
   try with_reducible rfl
  simp only[Act.put,nrm]
  refine wpAnyU.take (i:=6) (v:=?v6) rfl (by kernel_rfl) (fun _ _ _ h=>(by cases h.1)) (Or.inl ⟨by rfl,?yy6⟩) hHeld ?rr6
  case yy6=>
   intro w8 hSw
   obtain⟨s1,s2,s3,s4⟩:=hSw
   go_simp
   try with_reducible rfl
  simp only[Act.put,nrm]
  refine wpAnyU.one (i:=7) (by kernel_rfl) rfl rfl (fun K hK=>?_)
  simp only[List.getElem_toArray,List.getElem_cons_succ,List.getElem_cons_zero]
  go_simp
  refine (HED.out.1 _).mono ?_
  rintro e8 W8 ⟨rfl,hb8⟩
  have hg8:=za6 hb8 (Nat.le_refl _) none
  have hg78:W7.grownBy W8 none:=za2 (zb0 W7 none) hg8
  have hHeld:=And.intro (hg78.cell cMx (by simp)) (And.intro (hg78.cell c0 (by simp)) (And.intro (hg78.cell c1 (by simp)) (hg78.cell c2 (by simp))))
  refine hK _ _ (fun _=>hHeld) ?_
  clear hK K
  simp only[List.setIfInBounds_toArray,List.set_cons_succ,List.set_cons_zero]
  refine wpAnyU.take (i:=8) (v:=?v8) rfl (by kernel_rfl) (fun _ _ _ h=>(by cases h.1)) (Or.inl ⟨by rfl,?yy8⟩) hHeld ?rr8
  case yy8=>
   intro w8 hSw
   obtain⟨s1,s2,s3,s4⟩:=hSw
   go_simp
   try with_reducible rfl
  simp only[Act.put,nrm]
  refine wpAnyU.one (i:=9) (by kernel_rfl) rfl rfl (fun K hK=>?_)
  refine wp_put 134 (.tmp 108) (.tmp 116) (.const (.bool true)) rfl codes82 und134 (HMAP.out.kept hg78 (by simp)) (t,e) ⟨by show t<_;have:=HC.out.1;have:=zg5 this;omega,by show e<_;omega⟩ true rfl rfl rfl ?_
  intro W9 h1 h2 h3
  refine hK _ _ (fun q=>absurd q (by simp)) ?_
  clear hK K
  refine wpAnyU.fin (by kernel_rfl) ⟨rfl,?_⟩ _
  have hO8:=HI7.out.fresh hMl hg78 (fun r e=>by cases e)
  have hO9:OB W Mb (mtB mt (pre.map (·.1)++[((t,i,j,f,q),okb)])) W9:=hO8.meet h2 ⟨_,h1.congr (fun p=>by rw[←mD_put,HED.out.2])⟩
  have hs7b:H<W7.heap.size:=Nat.lt_of_lt_of_le hH HI7.out.g.size
  have sp9:zg8 H H N W7 W9:=(spare2_grown hg78 hs7b (by omega)).trans (hO8.spare hH hHM hNH hNM h2)
  have k9:KeepsFrom W.heap.size W7 W9:=(KeepsFrom.of_grownBy hg78 (fun r e=>by cases e)).trans (KeepsFrom.of_grownBy h2 (fun r e=>by cases e;exact hMl))
  have H9:=Hd3 k9 sp9 hO9
  clear hHeld hb8 hg8 hg78 h1 h2 h3 c0 c1 c2 cMx hs7 hO8 hO9 sp9 k9 hs7b
  gi_wp2
  exact H9.out
end
section
theorem edN_ends:∀e,e<6→edN (pA e) (pB e)=e:=by decide
theorem edq_frS {t e:Nat}(he:e<6):edq (frS t e)=(t,e):=by
 obtain⟨c0,c1⟩:=frC_ends e he
 show (t,edN (frC e 4 0) (frC e 4 1))=(t,e)
 rw[c0,c1,edN_ends e he]
structure PW (G:Gl)(k:Nat)(rels:List (List Int))(mt:Nat×Nat→Bool):Prop where
 rel:∀r,r∈rels→RelOf G r∧r.length≤600000
 met:∀p,mt p=true→MetE G rels (6*p.1+p.2)
 all:∀q,q<k→mt (q / 6,q % 6)=true
 len:rels.length≤k
theorem PW.zero (G:Gl):PW G 0 [] (fun _=>false):=⟨fun r h=>(by simp at h),fun p h=>(by simp at h),fun q h=>by omega,Nat.le_refl _⟩
theorem mem_pthB {G:Gl}{s:RS}{m:Nat}{x:RB}(h:x∈pthB G s m):∃k,k<m∧itr G 2 s k=some x.1:=by
 unfold pthB pth at h
 rw[List.mem_map] at h
 obtain⟨u,hu,rfl⟩:=h
 rw[List.mem_filterMap] at hu
 obtain⟨k,hk,h2⟩:=hu
 exact⟨k,List.mem_range.1 hk,h2⟩
theorem mtB_iff {mt:Nat×Nat→Bool}{pre:List RB}{p:Nat×Nat}:mtB mt pre p=true↔mt p=true∨∃x,x∈pre∧edq x.1=p:=by
 unfold mtB
 rw[Bool.or_eq_true,List.any_eq_true]
 simp only[decide_eq_true_eq]
theorem pthB_head {G:Gl}{s:RS}{m:Nat}(hm:0<m):∃x,x∈pthB G s m∧x.1=s:=by
 refine⟨(s,nxB G s),?_,rfl⟩
 unfold pthB pth
 rw[List.mem_map]
 exact⟨s,List.mem_filterMap.2 ⟨0,List.mem_range.2 hm,rfl⟩,rfl⟩
theorem walk_all {G:Gl}{s:RS}{m:Nat}(hW:WalkN G s m):((pthB G s m).all (·.2)=true→itr G 2 s m=some s)∧((pthB G s m).all (·.2)=false→itr G 2 s m=none):=by
 obtain⟨h0,h1,h2,h3⟩:=hW
 obtain⟨j,rfl⟩:∃j,m=j+1:=⟨m-1,by omega⟩
 obtain⟨u,hu⟩:=Option.ne_none_iff_exists'.1 (h1 j (by omega))
 have hst:stp G 2 u=itr G 2 s (j+1):=by simp only[itr,hu,Option.bind_some]
 constructor
 ·intro h
  rcases h3 with q | q
  ·exfalso
   rw[pthB_succ hu,List.all_append] at h
   unfold nxB at h
   rw[hst,q] at h
   simp at h
  ·exact q
 ·intro h
  rcases h3 with q | q
  ·exact q
  ·exfalso
   have:(pthB G s (j+1)).all (·.2)=true:=by
    rw[List.all_eq_true]
    intro x hx
    have hx0:=hx
    unfold pthB at hx
    rw[List.mem_map] at hx
    obtain⟨y,hy,rfl⟩:=hx
    unfold pth at hy
    rw[List.mem_filterMap] at hy
    obtain⟨i,hi,hy2⟩:=hy
    have hil:=List.mem_range.1 hi
    have hst2:stp G 2 y=itr G 2 s (i+1):=by simp only[itr,hy2,Option.bind_some]
    show nxB G y=true
    unfold nxB
    rw[hst2]
    rcases Nat.lt_or_ge (i+1) (j+1) with c | c
    ·obtain⟨z,hz⟩:=Option.ne_none_iff_exists'.1 (h1 (i+1) c)
     rw[hz];rfl
    ·rw[show i+1=j+1 by omega,q];rfl
   rw[this] at h;cases h
section
variable {G:Gl}{t e:Nat}{rels:List (List Int)}{mt:Nat×Nat→Bool}
theorem PW.skip (h:PW G (6*t+e) rels mt)(he:e<6)(hm:mt (t,e)=true):PW G (6*t+e+1) rels mt:=
 ⟨h.rel,h.met,fun q hq=>by
  by_cases c:q=6*t+e
  ·rw[c,show (6*t+e) / 6=t by omega,show (6*t+e) % 6=e by omega];exact hm
  ·exact h.all q (by omega),by have:=h.len;omega⟩
theorem PW.whole (h:PW G (6*t+e) rels mt)(ht:t<G.n)(he:e<6){m:Nat}(hW:WalkN G (frS t e) m)(hmb:m≤600000)(hc:itr G 2 (frS t e) m=some (frS t e)):PW G (6*t+e+1) (rels++[gwrd G (frS t e) m]) (mtB mt (pthB G (frS t e) m)):=by
 have hs:=frS_ok (n:=G.n) ht he
 refine⟨fun r hr=>?_,fun p hp=>?_,fun q hq=>?_,by have:=h.len;simp;omega⟩
 ·rcases List.mem_append.1 hr with c | c
  ·exact h.rel r c
  ·rw[List.mem_singleton] at c
   subst c
   refine⟨⟨frS t e,m,hs,hW.1,hc,hW.2.2.1,rfl⟩,?_⟩
   rw[←ltrs_pth]
   refine Nat.le_trans (ltrs_len _ _) ?_
   unfold pthB
   rw[List.length_map,pth_len (fun i hi=>hW.2.1 i hi)];exact hmb
 ·rcases mtB_iff.1 hp with c | ⟨x,hx,c⟩
  ·exact (h.met p c).more (fun r hr=>List.mem_append.2 (.inl hr))
  ·obtain⟨k,hk,hi⟩:=mem_pthB hx
   refine⟨frS t e,x.1,k,hs,hi,?_,.inr (.inr ⟨m,hW.1,hc,hW.2.2.1,by simp⟩)⟩
   rw[←c];rfl
 ·by_cases c:q=6*t+e
  ·rw[c,show (6*t+e) / 6=t by omega,show (6*t+e) % 6=e by omega]
   obtain⟨x,hx,e1⟩:=pthB_head (G:=G) (s:=frS t e) hW.1
   exact mtB_iff.2 (.inr ⟨x,hx,by rw[e1];exact edq_frS he⟩)
  ·exact mtB_iff.2 (.inl (h.all q (by omega)))
theorem PW.open (h:PW G (6*t+e) rels mt)(ht:t<G.n)(he:e<6){m m2:Nat}(hW:WalkN G (frS t e) m)(hc:itr G 2 (frS t e) m=none):PW G (6*t+e+1) rels (mtB (mtB mt (pthB G (frS t e) m)) (pthB G (sw23 (frS t e)) m2)):=by
 have hs:=frS_ok (n:=G.n) ht he
 refine⟨h.rel,fun p hp=>?_,fun q hq=>?_,by have:=h.len;omega⟩
 ·rcases mtB_iff.1 hp with c | ⟨x,hx,c⟩
  ·rcases mtB_iff.1 c with c | ⟨x,hx,c⟩
   ·exact h.met p c
   ·obtain⟨k,hk,hi⟩:=mem_pthB hx
    exact⟨frS t e,x.1,k,hs,hi,by rw[←c];rfl,.inl ⟨m,hc⟩⟩
  ·obtain⟨k,hk,hi⟩:=mem_pthB hx
   exact⟨sw23 (frS t e),x.1,k,sw23_ok hs,hi,by rw[←c];rfl,.inr (.inl ⟨m,by rw[sw23_sw];exact hc⟩)⟩
 ·by_cases c:q=6*t+e
  ·rw[c,show (6*t+e) / 6=t by omega,show (6*t+e) % 6=e by omega]
   obtain⟨x,hx,e1⟩:=pthB_head (G:=G) (s:=frS t e) hW.1
   exact mtB_iff.2 (.inl (mtB_iff.2 (.inr ⟨x,hx,by rw[e1];exact edq_frS he⟩)))
  ·exact mtB_iff.2 (.inl (mtB_iff.2 (.inl (h.all q (by omega)))))
end
theorem walk_bound {G:Gl}(hok:za9 G=true){s:RS}(hs:Rok G.n s){m:Nat}(hW:WalkN G s m):m≤600000:=by
 have hn:=zg5 hok
 obtain⟨k,hk0,hk1,hk2⟩:=itr_ends hok (.inl ⟨rfl,rfl⟩) hs
 rcases Nat.lt_or_ge k m with c | c
 ·exfalso
  rcases hk2 with q | q
  ·exact hW.2.1 k c q
  ·exact hW.2.2.1 k hk0 c q
 ·omega
end
section
open Go.RowKit Go.Shelf Go.Maps
structure OS (N K Mb Mx Cb o Pb:Nat):Prop where
 lt:N+1<K∧Cb<K∧o<K∧Mx<K∧Mb<K∧Pb<K
 ne:Pb≠N∧Pb≠N+1∧Pb≠Cb∧Pb≠Mx∧Pb≠o∧Pb≠Mb
 ge:N≤Cb∧N≤o∧N≤Mx∧N≤Mb∧N≤Pb
structure OW (w W:World)(N K Mb Mx Cb o Pb:Nat)(G:Gl)(v:Value)(gens:Nat)(rels:List (List Int))(mt:Nat×Nat→Bool)(ds:List Deferred)(rv:Value)(xs:List Value):Prop where
 bel:Below N w W
 gb:W.cell? ⟨N,0,none⟩=some v
 r0:W.cell? ⟨N+1,0,none⟩=some (.int .i64 0)
 r1:W.cell? ⟨N+1,1,none⟩=some (.slice none 0 0)
 rf:∀o,W.frozen? ⟨N+1,o,none⟩=false
 cb:W.cell? ⟨Cb,0,none⟩=some (.slice (some ⟨o,0,none⟩) G.n G.n)
 row:W.rowIs o 84 (4*G.n) (fun k=>.int .i64 (ltrI G k))
 mx:W.cell? ⟨Mx,0,none⟩=some (.map (some Mb))
 map:∃nn,MapIs W 82 okp kp bv Mb nn (mD mt)
 p0:W.cell? ⟨Pb,0,none⟩=some (.int .i64 (gens:Int))
 p1:W.cell? ⟨Pb,1,none⟩=some rv
 pf:W.frozen? ⟨Pb,1,none⟩=false
 own:W.ownsRow K 35 1 rv rels.length xs
 rows:∀(j:Nat) r,rels[j]?=some r→∃x,xs[j]?=some x∧W.ownsRow K 3 1 x r.length (lv r)
 marks:Marks ds W N
 size:K≤W.heap.size
theorem own_ne {W:World}{K L a b n m:Nat}{s t:TypeId}{x y:Value}{xs ys:List Value}(h:W.ownsRow K s a x n xs)(k:W.ownsRow L t b y m ys)(hst:s≠t):x.ownBlock=none∨x.ownBlock≠y.ownBlock:=by
 rcases h.2 with ⟨rfl,-⟩ | ⟨g,cap,cur,rfl,-,hg,-⟩
 ·exact .inl rfl
 ·refine .inr (fun e=>?_)
  rcases k.2 with ⟨rfl,-⟩ | ⟨g',cap',cur',rfl,-,hg',-⟩
  ·simp[Value.ownBlock] at e
  ·simp only[Value.ownBlock,Option.some.injEq] at e
   subst e
   rw[hg] at hg'
   cases hg'
   exact hst rfl
section
variable {w W W':World}{N K Mb Mx Cb o Pb:Nat}{G:Gl}{v:Value}{gens:Nat}{rels:List (List Int)}{mt mt':Nat×Nat→Bool}{ds:List Deferred}{rv:Value}{xs:List Value}
theorem OW.mapc (h:OW w W N K Mb Mx Cb o Pb G v gens rels mt ds rv xs){i j:Nat}{y:Value}(hc:W.cell? ⟨i,j,none⟩=some y):i≠Mb:=fun q=>by
 subst q
 obtain⟨c,t,f,e⟩:=zc7 hc
 obtain⟨nn,es,cl,hb,_⟩:=h.map
 rw[hb] at e;cases e
theorem OW.meet (S:OS N K Mb Mx Cb o Pb)(h:OW w W N K Mb Mx Cb o Pb G v gens rels mt ds rv xs)(hg:W.grownBy W' (some Mb))(hm:∃nn,MapIs W' 82 okp kp bv Mb nn (mD mt')):OW w W' N K Mb Mx Cb o Pb G v gens rels mt' ds rv xs:=by
 have ne:∀{i j:Nat} {y:Value},W.cell? ⟨i,j,none⟩=some y→some i≠some Mb:=fun hc=>by simpa using h.mapc hc
 have neo:∀{y:Value} {e s n ys},W.ownsRow K e s y n ys→y.ownBlock=none∨y.ownBlock≠some Mb:=fun hy=>.inr (fun e=>by have:=(hy.lt _ e).1;have:=S.lt;omega)
 have hK:=h.size
 have hrw:o≠Mb:=fun q=>by
  obtain⟨cs,hc,_⟩:=h.row
  obtain⟨nn,es,cl,hb,_⟩:=h.map
  rw[q,hb] at hc;cases hc
 refine⟨h.bel.grown hg (by have:=S.lt;omega) (fun k e=>by cases e;exact S.ge.2.2.2.1),hg.cell h.gb (ne h.gb),hg.cell h.r0 (ne h.r0),hg.cell h.r1 (ne h.r1),fun i=>(hg.frozen_far ⟨N+1,i,none⟩ (show N+1<_ from za0 h.r0) (ne h.r0)).trans (h.rf i),hg.cell h.cb (ne h.cb),za3 h.row hg (by simpa using hrw),hg.cell h.mx (ne h.mx),hm,
  hg.cell h.p0 (ne h.p0),hg.cell h.p1 (ne h.p1),(hg.frozen_far ⟨Pb,1,none⟩ (za0 h.p1) (ne h.p1)).trans h.pf,h.own.kept hg (neo h.own),fun j r hr=>?_,h.marks.kept (fun r _ hr=>(hg.block r (Array.getElem?_eq_some_iff.1 hr).1 (fun e=>?_)).trans hr),Nat.le_trans hK hg.size⟩
 ·obtain⟨x,h1,h2⟩:=h.rows j r hr
  exact⟨x,h1,h2.kept hg (neo h2)⟩
 ·cases e
  obtain⟨nn,es,cl,hb,_⟩:=h.map
  rw[hb] at hr;cases hr
theorem OW.kept (S:OS N K Mb Mx Cb o Pb)(h:OW w W N K Mb Mx Cb o Pb G v gens rels mt ds rv xs)(hg:W.grownBy W' none):OW w W' N K Mb Mx Cb o Pb G v gens rels mt ds rv xs:=by
 obtain⟨nn,hm⟩:=h.map
 exact h.meet S (grown_row hg _) ⟨nn,hm.kept hg (by simp)⟩
theorem OI.grown {W0 W:World}{R H:Nat}{ls:List Int}{wh:Bool}{V:World}(h:OI W0 R H Mb ls wh mt W)(hg:V.grownBy W0 none)(hR:V.heap.size≤R)(hH:V.heap.size≤H):V.grownBy W (some Mb):=
 ⟨h.os.trans hg.os,h.tape.trans hg.tape,h.output.trans hg.output,Nat.le_trans hg.size h.size,fun k hk hne=>(h.blk k (Nat.lt_of_lt_of_le hk hg.size) (by omega) (by omega) (by simpa using hne)).trans (hg.block k hk (by simp))⟩
theorem OW.mark (h:OW w W N K Mb Mx Cb o Pb G v gens rels mt ds rv xs){W0:World}{D:Nat}(hk:∀r,N≤r→W0.heap[r]?=some (.deferred (some []))→W.heap[r]?=some (.deferred (some [])))(hm:Marks ds W0 N)(hD:W0.heap.size≤D)(hN:N≤D)(hd:W.heap[D]?=some (.deferred (some []))) :
  OW w W N K Mb Mx Cb o Pb G v gens rels mt ({ target:=.collected D,args:=#[] } :: ds) rv xs:=
 ⟨h.bel,h.gb,h.r0,h.r1,h.rf,h.cb,h.row,h.mx,h.map,h.p0,h.p1,h.pf,h.own,h.rows,hm.push hD hN hk hd,h.size⟩
theorem OW.push (S:OS N K Mb Mx Cb o Pb)(h:OW w W N K Mb Mx Cb o Pb G v gens rels mt ds rv xs){w1:World}{ob:Obj}{x:Value}{r:List Int}{g cap:Nat}(hx:W.ownsRow K 3 1 x r.length (lv r))
  (hown:w1.ownsRow K 35 1 (.slice (some ⟨g,0,none⟩) (rels.length+1) cap) (rels.length+1) (xs++[x])) (hgrow:(W.alloc ob).grownBy w1 rv.ownBlock) (hat:rv.ownBlock=some g∨g=W.heap.size+1) :
  OW w (w1.setCell ⟨Pb,1,none⟩ (.slice (some ⟨g,0,none⟩) (rels.length+1) cap)) N K Mb Mx Cb o Pb G v gens (rels++[r]) mt ds (.slice (some ⟨g,0,none⟩) (rels.length+1) cap) (xs++[x]):=by
 have hal:=World.grownBy_alloc W ob none
 have h1:=h.kept S hal
 have hK:=h.size
 have hsc:=za1 w1 Pb 1 (.slice (some ⟨g,0,none⟩) (rels.length+1) cap)
 have hlo:∀i,i<K→some i≠rv.ownBlock:=fun i hi e=>by have:=(h.own.lt i e.symm).1;omega
 obtain⟨l1,l2,l3,l4,l5,l6⟩:=S.lt
 obtain⟨n1,n2,n3,n4,n5,n6⟩:=S.ne
 obtain⟨g1,g2,g3,g4,g5⟩:=S.ge
 have hgK:K≤g:=by
  rcases hat with e | e
  ·exact (h.own.lt g e).1
  ·omega
 have tw:∀{i j:Nat} {y:Value},(W.alloc ob).cell? ⟨i,j,none⟩=some y→i<K→i≠Pb→(w1.setCell ⟨Pb,1,none⟩ (.slice (some ⟨g,0,none⟩) (rels.length+1) cap)).cell? ⟨i,j,none⟩=some y:=fun hc hi hne=>hsc.cell (hgrow.cell hc (hlo _ hi)) (by simpa using hne)
 obtain⟨nn,hm⟩:=h1.map
 refine⟨(h1.bel.grown hgrow (by have:=hal.size;omega) (fun k e=>by have:=(h.own.lt k e).1;omega)).setCell g5 _,tw h1.gb (by omega) n1.symm,tw h1.r0 (by omega) n2.symm,tw h1.r1 (by omega) n2.symm,fun i=>?_,tw h1.cb l2 n3.symm,za3 (za3 h1.row hgrow (hlo _ l3)) hsc (by simpa using n5.symm),tw h1.mx l4 n4.symm,
  ⟨nn,(hm.kept hgrow (hlo _ l5)).kept hsc (by simpa using n6.symm)⟩,?_,World.cell?_setCell_same _ _ _ (hgrow.cell h1.p1 (hlo _ l6)),?_,?_,fun j r' hr'=>?_,h1.marks.kept (fun q hq hr=>?_),?_⟩
 ·rw[World.frozen?_setCell]
  exact (hgrow.frozen_far ⟨N+1,i,none⟩ (show N+1<_ from za0 h1.r0) (hlo _ (by omega))).trans (h1.rf i)
 ·exact (World.cell?_setCell_other (a:=⟨Pb,1,none⟩) (b:=⟨Pb,0,none⟩) _ _ (by simp)).trans (hgrow.cell h1.p0 (hlo _ l6))
 ·rw[World.frozen?_setCell]
  exact (hgrow.frozen_far ⟨Pb,1,none⟩ (za0 h1.p1) (hlo _ l6)).trans h1.pf
 ·rw[List.length_append]
  exact hown.kept hsc (.inr (by simp only[Value.ownBlock,ne_eq,Option.some.injEq];omega))
 ·have key:∀y (s:List Int),W.ownsRow K 3 1 y s.length (lv s)→(w1.setCell ⟨Pb,1,none⟩ (.slice (some ⟨g,0,none⟩) (rels.length+1) cap)).ownsRow K 3 1 y s.length (lv s):=fun y s hy=>by
   have h2:(W.alloc ob).ownsRow K 3 1 y s.length (lv s):=hy.alloc _
   refine (h2.kept hgrow (own_ne h2 h1.own (by decide))).kept hsc (.inr (fun e=>?_))
   have:=(hy.lt _ e).1;omega
  by_cases e:j=rels.length
  ·subst e
   rw[List.getElem?_append_right (Nat.le_refl _),Nat.sub_self] at hr'
   simp only[List.getElem?_cons_zero,Option.some.injEq] at hr'
   subst hr'
   refine⟨x,?_,key _ _ hx⟩
   have hxl:=h.own.1
   rw[List.getElem?_append_right (by omega),show rels.length-xs.length=0 by omega];rfl
  ·have hjl:j<rels.length:=by
    have:=(List.getElem?_eq_some_iff.1 hr').1
    rw[List.length_append,List.length_singleton] at this;omega
   rw[List.getElem?_append_left hjl] at hr'
   obtain⟨y,q1,q2⟩:=h.rows j r' hr'
   refine⟨y,?_,key _ _ q2⟩
   have hxl:=h.own.1
   rw[List.getElem?_append_left (by omega)];exact q1
 ·rw[hsc.block q ?_ (by simp;intro e;subst e;obtain⟨c,t,f,e2⟩:=zc7 h1.p1;rw[hr] at e2;cases e2)]
  ·refine (hgrow.block q (Array.getElem?_eq_some_iff.1 hr).1 (fun e=>?_)).trans hr
   rcases h1.own.2 with ⟨e1,_⟩ | ⟨g',cap',cur,e1,_,hgg,_⟩
   ·rw[e1] at e;simp[Value.ownBlock] at e
   ·rw[e1] at e
    simp only[Value.ownBlock,Option.some.injEq] at e
    subst e
    rw[hr] at hgg;cases hgg
  ·exact Nat.lt_of_lt_of_le (Array.getElem?_eq_some_iff.1 hr).1 hgrow.size
 ·have:=hgrow.size
  have:=hal.size
  have:=hsc.size
  omega
end
end
end Go.Proofs.Ytlckpgahijlmoaa
