/- group's first. -/
import Derived.Test.YtlckpgahijlmoaaQ48
import Derived.Test.YtlckpgahijlmoaaQ38
set_option maxRecDepth 100000
set_option maxHeartbeats 8000000
namespace Go.Proofs.Ytlckpgahijlmoaa
section
open Go.RowKit Go.Shelf Go.Maps
def tabE:Array Value:=#[.int .i64 0,.int .i64 1,.int .i64 2,.int .i64 3,.int .i64 0,.int .i64 2,.int .i64 1,.int .i64 3,.int .i64 0,.int .i64 3,.int .i64 1,.int .i64 2,.int .i64 1,.int .i64 2,.int .i64 0,.int .i64 3,.int .i64 1,.int .i64 3,.int .i64 0,.int .i64 2,.int .i64 2,.int .i64 3,.int .i64 0,.int .i64 1]
theorem tab_at:∀e,e<6→∀i,i<4→tabE[e*4+i]?=some (.int .i64 (frC e 4 i:Nat)):=by
 intro e he i hi
 rcases (show e=0∨e=1∨e=2∨e=3∨e=4∨e=5 by omega) with rfl | rfl | rfl | rfl | rfl | rfl<;>rcases (show i=0∨i=1∨i=2∨i=3 by omega) with rfl | rfl | rfl | rfl<;>rfl
theorem gfirst_walk (t e:Nat)(he:e<6)(w:World):Calls Try.prog 76 #[.int .i64 (t:Int),.int .i64 (e:Int)] w fun x w'=>x=.returned (.tuple #[.agg (zb6 (frS t e)),.agg (zb6 (sw23 (frS t e)))])∧Below w.heap.size w w':=by
 obtain⟨N,hN⟩:∃N,N=w.heap.size:=⟨_,rfl⟩
 have HN:=Lib.hid hN
 have e0:0≤(e:Int):=by omega
 have e6:(e:Int)<6:=by omega
 obtain⟨A,hA⟩:∃A:Int,A=(frC e 4 0:Nat):=⟨_,rfl⟩
 obtain⟨B,hB⟩:∃A:Int,A=(frC e 4 1:Nat):=⟨_,rfl⟩
 obtain⟨C,hC⟩:∃A:Int,A=(frC e 4 2:Nat):=⟨_,rfl⟩
 obtain⟨D,hD⟩:∃A:Int,A=(frC e 4 3:Nat):=⟨_,rfl⟩
 have HQ:=Hd4 hA hB hC hD
 have tb:=fun (W:World) (i:Nat) (hi:i<4)=>(World.cell?_alloc_at (w:=W) tabE 84 W.heap.size (e*4+i) rfl).trans (tab_at e he i hi)
 have t0:=tb ((w.alloc (.cells #[.int .i64 0,.int .i64 0,.int .i64 0,.int .i64 0,.int .i64 0] 136)).alloc (.cells #[.int .i64 0,.int .i64 0,.int .i64 0,.int .i64 0,.int .i64 0] 136)) 0 (by omega)
 have t1:=tb ((w.alloc (.cells #[.int .i64 0,.int .i64 0,.int .i64 0,.int .i64 0,.int .i64 0] 136)).alloc (.cells #[.int .i64 0,.int .i64 0,.int .i64 0,.int .i64 0,.int .i64 0] 136)) 1 (by omega)
 have t2:=tb ((w.alloc (.cells #[.int .i64 0,.int .i64 0,.int .i64 0,.int .i64 0,.int .i64 0] 136)).alloc (.cells #[.int .i64 0,.int .i64 0,.int .i64 0,.int .i64 0,.int .i64 0] 136)) 2 (by omega)
 have t3:=tb ((w.alloc (.cells #[.int .i64 0,.int .i64 0,.int .i64 0,.int .i64 0,.int .i64 0] 136)).alloc (.cells #[.int .i64 0,.int .i64 0,.int .i64 0,.int .i64 0,.int .i64 0] 136)) 3 (by omega)
 rw[←hA] at t0
 rw[←hB] at t1
 rw[←hC] at t2
 rw[←hD] at t3
 simp only[World.size_alloc,tabE,Nat.add_zero] at t0 t1 t2 t3
 clear tb hA hB hC hD
 go_enter Try.func76,Try.ntmps76
 go_wp2_with fail
 clear t0 t1 t2 t3
 rw[←hN]
 refine zb3 fun W1 hW=>?_
 have h1:FQ w W1 N A B C D:=by
  rw[hW,hN]
  refine⟨by (repeat' (first | assumption | exact Below.refl _ _ | refine za7 ?_ (by assumption) | refine zb2 ?_ _ | refine za5 ?_ | refine zb1 ?_ (by simp<;>omega) _)),by simp[go_sem],by simp[go_sem],by simp[go_sem],by simp[go_sem],fun i hi=>?_,fun i hi=>?_⟩
  all_goals (rcases (show i=0∨i=1∨i=2∨i=3∨i=4 by omega) with rfl | rfl | rfl | rfl | rfl<;>simp[go_sem])
 have H1:=Lib.hid h1
 clear hW hN
 refine wp_region_noPanic ?_
 refine wp_region_until (fun w'=>w'.cell? ⟨N+1+1+1,0,none⟩=some (.int .i64 A)∧w'.cell? ⟨N+1+1+1,1,none⟩=some (.int .i64 B)∧w'.cell? ⟨N+1+1+1,2,none⟩=some (.int .i64 C)∧w'.cell? ⟨N+1+1+1,3,none⟩=some (.int .i64 D)) 21 (by kernel_rfl) ?_
 change wpAnyU _ _ _ _ _ _ 22 #[false,false,false,false,false,false,false,false,false,false,false,false,false,false,false,false,false,false,false,false,false,false] _ (World.drew _)
 have hHeld:=And.intro (show W1.drew.cell? _=_ from h1.c0) (And.intro (show W1.drew.cell? _=_ from h1.c1) (And.intro (show W1.drew.cell? _=_ from h1.c2) (show W1.drew.cell? _=_ from h1.c3)))
 clear h1
 refine wpAnyU.take (i:=0) (v:=?v0) rfl (by kernel_rfl) (fun _ _ _ h=>h) (Or.inl ⟨by rfl,?yy0⟩) hHeld ?rr0
 case yy0=>
  intro w8 hSw
  obtain⟨s1,s2,s3,s4⟩:=hSw
  go_simp
  try with_reducible rfl
 simp only[Act.put,nrm]
 refine wpAnyU.take (i:=1) (v:=?v1) rfl (by kernel_rfl) (fun _ _ _ h=>h) (Or.inl ⟨by rfl,?yy1⟩) hHeld ?rr1
 case yy1=>
  intro w8 hSw
  obtain⟨s1,s2,s3,s4⟩:=hSw
  go_simp
  try with_reducible rfl
 simp only[Act.put,nrm]
 refine wpAnyU.take (i:=2) (v:=?v2) rfl (by kernel_rfl) (fun _ _ _ h=>h) (Or.inl ⟨by rfl,?yy2⟩) hHeld ?rr2
 case yy2=>
  intro w8 hSw
  obtain⟨s1,s2,s3,s4⟩:=hSw
  go_simp
  try with_reducible rfl
 simp only[Act.put,nrm]
 refine wpAnyU.take (i:=3) (v:=?v3) rfl (by kernel_rfl) (fun _ _ _ h=>h) (Or.inl ⟨by rfl,?yy3⟩) hHeld ?rr3
 case yy3=>
  intro w8 hSw
  obtain⟨s1,s2,s3,s4⟩:=hSw
  go_simp
  try with_reducible rfl
 simp only[Act.put,nrm]
 refine wpAnyU.take (i:=4) (v:=?v4) rfl (by kernel_rfl) (fun _ _ _ h=>h) (Or.inl ⟨by rfl,?yy4⟩) hHeld ?rr4
 case yy4=>
  intro w8 hSw
  obtain⟨s1,s2,s3,s4⟩:=hSw
  go_simp
  try with_reducible rfl
 simp only[Act.put,nrm]
 refine wpAnyU.take (i:=5) (v:=?v5) rfl (by kernel_rfl) (fun _ _ _ h=>h) (Or.inl ⟨by rfl,?yy5⟩) hHeld ?rr5
 case yy5=>
  intro w8 hSw
  obtain⟨s1,s2,s3,s4⟩:=hSw
  go_simp
  try with_reducible rfl
 simp only[Act.put,nrm]
 refine wpAnyU.take (i:=6) (v:=?v6) rfl (by kernel_rfl) (fun _ _ _ h=>h) (Or.inl ⟨by rfl,?yy6⟩) hHeld ?rr6
 case yy6=>
  intro w8 hSw
  obtain⟨s1,s2,s3,s4⟩:=hSw
  go_simp
  try with_reducible rfl
 simp only[Act.put,nrm]
 refine wpAnyU.take (i:=7) (v:=?v7) rfl (by kernel_rfl) (fun _ _ _ h=>h) (Or.inl ⟨by rfl,?yy7⟩) hHeld ?rr7
 case yy7=>
  intro w8 hSw
  obtain⟨s1,s2,s3,s4⟩:=hSw
  go_simp
  try with_reducible rfl
 simp only[Act.put,nrm]
 refine wpAnyU.take (i:=8) (v:=?v8) rfl (by kernel_rfl) (fun _ _ _ h=>h) (Or.inl ⟨by rfl,?yy8⟩) hHeld ?rr8
 case yy8=>
  intro w8 hSw
  obtain⟨s1,s2,s3,s4⟩:=hSw
  go_simp
  try with_reducible rfl
 simp only[Act.put,nrm]
 refine wpAnyU.take (i:=9) (v:=?v9) rfl (by kernel_rfl) (fun _ _ _ h=>h) (Or.inl ⟨by rfl,?yy9⟩) hHeld ?rr9
 case yy9=>
  intro w8 hSw
  obtain⟨s1,s2,s3,s4⟩:=hSw
  go_simp
  try with_reducible rfl
 simp only[Act.put,nrm]
 refine wpAnyU.take (i:=10) (v:=?v10) rfl (by kernel_rfl) (fun _ _ _ h=>h) (Or.inl ⟨by rfl,?yy10⟩) hHeld ?rr10
 case yy10=>
  intro w8 hSw
  obtain⟨s1,s2,s3,s4⟩:=hSw
  go_simp
  try with_reducible rfl
 simp only[Act.put,nrm]
 refine wpAnyU.take (i:=11) (v:=?v11) rfl (by kernel_rfl) (fun _ _ _ h=>h) (Or.inl ⟨by rfl,?yy11⟩) hHeld ?rr11
 case yy11=>
  intro w8 hSw
  obtain⟨s1,s2,s3,s4⟩:=hSw
  go_simp
  try with_reducible rfl
 simp only[Act.put,nrm]
 refine wpAnyU.take (i:=12) (v:=?v12) rfl (by kernel_rfl) (fun _ _ _ h=>h) (Or.inl ⟨by rfl,?yy12⟩) hHeld ?rr12
 case yy12=>
  intro w8 hSw
  obtain⟨s1,s2,s3,s4⟩:=hSw
  go_simp
  try with_reducible rfl
 simp only[Act.put,nrm]
 refine wpAnyU.take (i:=13) (v:=?v13) rfl (by kernel_rfl) (fun _ _ _ h=>h) (Or.inl ⟨by rfl,?yy13⟩) hHeld ?rr13
 case yy13=>
  intro w8 hSw
  obtain⟨s1,s2,s3,s4⟩:=hSw
  go_simp
  try with_reducible rfl
 simp only[Act.put,nrm]
 refine wpAnyU.take (i:=14) (v:=?v14) rfl (by kernel_rfl) (fun _ _ _ h=>h) (Or.inl ⟨by rfl,?yy14⟩) hHeld ?rr14
 case yy14=>
  intro w8 hSw
  obtain⟨s1,s2,s3,s4⟩:=hSw
  go_simp
  try with_reducible rfl
 simp only[Act.put,nrm]
 refine wpAnyU.take (i:=15) (v:=?v15) rfl (by kernel_rfl) (fun _ _ _ h=>h) (Or.inl ⟨by rfl,?yy15⟩) hHeld ?rr15
 case yy15=>
  intro w8 hSw
  obtain⟨s1,s2,s3,s4⟩:=hSw
  go_simp
  try with_reducible rfl
 simp only[Act.put,nrm]
 refine wpAnyU.take (i:=16) (v:=?v16) rfl (by kernel_rfl) (fun _ _ _ h=>h) (Or.inl ⟨by rfl,?yy16⟩) hHeld ?rr16
 case yy16=>
  intro w8 hSw
  obtain⟨s1,s2,s3,s4⟩:=hSw
  go_simp
  try with_reducible rfl
 simp only[Act.put,nrm]
 refine wpAnyU.take (i:=17) (v:=?v17) rfl (by kernel_rfl) (fun _ _ _ h=>h) (Or.inl ⟨by rfl,?yy17⟩) hHeld ?rr17
 case yy17=>
  intro w8 hSw
  obtain⟨s1,s2,s3,s4⟩:=hSw
  go_simp
  try with_reducible rfl
 simp only[Act.put,nrm]
 refine wpAnyU.take (i:=18) (v:=?v18) rfl (by kernel_rfl) (fun _ _ _ h=>h) (Or.inl ⟨by rfl,?yy18⟩) hHeld ?rr18
 case yy18=>
  intro w8 hSw
  obtain⟨s1,s2,s3,s4⟩:=hSw
  go_simp
  try with_reducible rfl
 simp only[Act.put,nrm]
 refine wpAnyU.take (i:=19) (v:=?v19) rfl (by kernel_rfl) (fun _ _ _ h=>h) (Or.inl ⟨by rfl,?yy19⟩) hHeld ?rr19
 case yy19=>
  intro w8 hSw
  obtain⟨s1,s2,s3,s4⟩:=hSw
  go_simp
  try with_reducible rfl
 simp only[Act.put,nrm]
 clear hHeld
 have hr:=H1.out.r
 have hs:=H1.out.s
 obtain⟨r0,z0⟩:=hr 0 (by omega)
 obtain⟨r1,z1⟩:=hr 1 (by omega)
 obtain⟨r2,z2⟩:=hr 2 (by omega)
 obtain⟨r3,z3⟩:=hr 3 (by omega)
 obtain⟨r4,z4⟩:=hr 4 (by omega)
 obtain⟨s0,y0⟩:=hs 0 (by omega)
 obtain⟨s1,y1⟩:=hs 1 (by omega)
 obtain⟨s2,y2⟩:=hs 2 (by omega)
 obtain⟨s3,y3⟩:=hs 3 (by omega)
 obtain⟨s4,y4⟩:=hs 4 (by omega)
 have hne:some (N+1)≠some N:=by simp
 have hn3:some (N+1+1+1)≠some N:=by simp;omega
 obtain⟨W5,hW5⟩:∃W5,W5=(((((W1.setCell ⟨N,0,none⟩ (.int .i64 (t:Int))).setCell ⟨N,1,none⟩ (.int .i64 A)).setCell ⟨N,2,none⟩ (.int .i64 B)).setCell ⟨N,3,none⟩ (.int .i64 C)).setCell ⟨N,4,none⟩ (.int .i64 D)).drew:=⟨_,rfl⟩
 have hc:∀(o:Nat) (y:Value) (bb:Nat),some bb≠some N→W1.cell? ⟨bb,o,none⟩=some y→W5.cell? ⟨bb,o,none⟩=some y:=fun o y bb hb h=>by
  rw[hW5]
  exact (zb0 _ (some N)).cell ((za1 _ N 4 _).cell ((za1 _ N 3 _).cell ((za1 _ N 2 _).cell ((za1 _ N 1 _).cell ((za1 _ N 0 _).cell h hb) hb) hb) hb) hb) hb
 have hf:∀(o:Nat),W5.frozen? ⟨N+1,o,none⟩=W1.frozen? ⟨N+1,o,none⟩:=fun o=>by
  rw[hW5];show World.frozen? (World.setCell _ _ _) _=_;simp only[World.frozen?_setCell]
 have hb5:Below N w W5:=by
  rw[hW5]
  exact za5 ((((((H1.out.bel).setCell (Nat.le_refl N) _).setCell (Nat.le_refl N) _).setCell (Nat.le_refl N) _).setCell (Nat.le_refl N) _).setCell (Nat.le_refl N) _)
 have hN5:W5.cell? ⟨N,0,none⟩=some (.int .i64 (t:Int))∧W5.cell? ⟨N,1,none⟩=some (.int .i64 A)∧W5.cell? ⟨N,2,none⟩=some (.int .i64 B)∧W5.cell? ⟨N,3,none⟩=some (.int .i64 C)∧W5.cell? ⟨N,4,none⟩=some (.int .i64 D):=by
  rw[hW5];refine⟨?_,?_,?_,?_,?_⟩<;>simp[go_sem, *]
 have HB:=Lib.hid hb5
 have HN5:=Lib.hid hN5
 refine wpAnyU.one (i:=20) (by kernel_rfl) rfl rfl (fun K hK=>?_)
 have HK:=Lib.hid hK
 go_simp
 rw[←hW5]
 refine HK.out _ _ (fun _=>⟨hc _ _ _ hn3 H1.out.c0,hc _ _ _ hn3 H1.out.c1,hc _ _ _ hn3 H1.out.c2,hc _ _ _ hn3 H1.out.c3⟩) ?_
 clear hK HK
 have e0:=hc _ _ _ hne (hs 0 (by omega)).1
 have e1:=hc _ _ _ hne (hs 1 (by omega)).1
 have e2:=hc _ _ _ hne (hs 2 (by omega)).1
 have e3:=hc _ _ _ hne (hs 3 (by omega)).1
 have e4:=hc _ _ _ hne (hs 4 (by omega)).1
 have x0:=(hf 0).trans (hs 0 (by omega)).2
 have x1:=(hf 1).trans (hs 1 (by omega)).2
 have x2:=(hf 2).trans (hs 2 (by omega)).2
 have x3:=(hf 3).trans (hs 3 (by omega)).2
 have x4:=(hf 4).trans (hs 4 (by omega)).2
 clear hr hs hc hf hb5 hN5 hW5 r0 r1 r2 r3 r4 z0 z1 z2 z3 z4 s0 s1 s2 s3 s4 y0 y1 y2 y3 y4
 refine wpAnyU.one (i:=21) (by kernel_rfl) rfl rfl (fun K hK=>?_)
 have HK:=Lib.hid hK
 go_simp
 refine HK.out _ _ (fun h=>absurd h (by simp)) ?_
 clear hK HK
 refine wpAnyU.fin (by kernel_rfl) ?_ _
 refine NoPanic.normal ?_
 obtain⟨n0,n1,n2,n3,n4⟩:=HN5.out
 go_wp2
 refine bodyPost_ret (v:=.tuple #[.agg #[.int .i64 (t:Int),.int .i64 A,.int .i64 B,.int .i64 C,.int .i64 D],.agg #[.int .i64 (t:Int),.int .i64 A,.int .i64 B,.int .i64 D,.int .i64 C]]) (by simp[results,Try.results76,go_sem, *]) rfl ⟨by rw[HQ.out.1,HQ.out.2.1,HQ.out.2.2.1,HQ.out.2.2.2];rfl,?_⟩
 rw[←HN.out]
 exact (((((HB.out).setCell (by show N≤N+1;omega) _).setCell (by show N≤N+1;omega) _).setCell (by show N≤N+1;omega) _).setCell (by show N≤N+1;omega) _).setCell (by show N≤N+1;omega) _
end
end Go.Proofs.Ytlckpgahijlmoaa
