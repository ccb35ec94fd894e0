/- The skeleton in memory: lists of rows that grow, and the laws of one more element. No condition. -/
import Derived.Test.YtlckpgahijlmoaaQ12
import Derived.Deep.CutRange
set_option maxRecDepth 100000
set_option maxHeartbeats 8000000
namespace Go.Proofs.Ytlckpgahijlmoaa
section
open Go.RowKit Go.Shelf Go.Maps
structure DS (W:World)(O:Nat):Prop where
 c:∃(a b c d:Int) (x y:Bool),W.cell? ⟨O,0,none⟩=some (.int .i64 a)∧W.cell? ⟨O,1,none⟩=some (.int .i64 b)∧W.cell? ⟨O,2,none⟩=some (.int .i64 c)∧W.cell? ⟨O,3,none⟩=some (.int .i64 d)∧W.cell? ⟨O,4,none⟩=some (.bool x)∧W.cell? ⟨O,5,none⟩=some (.bool y)
 f:∀o,W.frozen? ⟨O,o,none⟩=false
theorem DS.lt {W:World}{O:Nat}(h:DS W O):O<W.heap.size:=by
 obtain⟨a,b,c,d,x,y,h0,_⟩:=h.c
 exact za0 h0
theorem DS.kept {W W':World}{O:Nat}{row:Option Nat}(h:DS W O)(hg:W.grownBy W' row)(hne:some O≠row):DS W' O:=by
 obtain⟨a,b,c,d,x,y,h0,h1,h2,h3,h4,h5⟩:=h.c
 exact⟨⟨a,b,c,d,x,y,hg.cell h0 hne,hg.cell h1 hne,hg.cell h2 hne,hg.cell h3 hne,hg.cell h4 hne,hg.cell h5 hne⟩,fun o=>(hg.frozen_far ⟨O,o,none⟩ h.lt hne).trans (h.f o)⟩
theorem zc0 {W:World}{O o o':Nat}{x v:Value}(h:W.cell? ⟨O,o',none⟩=some x)(hne:o≠o'):(W.setCell ⟨O,o,none⟩ v).cell? ⟨O,o',none⟩=some x:=by
 rw[World.cell?_setCell_other (a:=⟨O,o,none⟩) (b:=⟨O,o',none⟩) _ _ (by simp)];exact h
theorem DS.s0 {W:World}{O:Nat}(h:DS W O)(z:Int):DS (W.setCell ⟨O,0,none⟩ (.int .i64 z)) O:=by
 obtain⟨a,b,c,d,x,y,h0,h1,h2,h3,h4,h5⟩:=h.c
 exact⟨⟨z,b,c,d,x,y,World.cell?_setCell_same _ _ _ h0,zc0 h1 (by omega),zc0 h2 (by omega),zc0 h3 (by omega),zc0 h4 (by omega),zc0 h5 (by omega)⟩,fun o=>by simpa using h.f o⟩
theorem DS.s1 {W:World}{O:Nat}(h:DS W O)(z:Int):DS (W.setCell ⟨O,1,none⟩ (.int .i64 z)) O:=by
 obtain⟨a,b,c,d,x,y,h0,h1,h2,h3,h4,h5⟩:=h.c
 exact⟨⟨a,z,c,d,x,y,zc0 h0 (by omega),World.cell?_setCell_same _ _ _ h1,zc0 h2 (by omega),zc0 h3 (by omega),zc0 h4 (by omega),zc0 h5 (by omega)⟩,fun o=>by simpa using h.f o⟩
theorem DS.s2 {W:World}{O:Nat}(h:DS W O)(z:Int):DS (W.setCell ⟨O,2,none⟩ (.int .i64 z)) O:=by
 obtain⟨a,b,c,d,x,y,h0,h1,h2,h3,h4,h5⟩:=h.c
 exact⟨⟨a,b,z,d,x,y,zc0 h0 (by omega),zc0 h1 (by omega),World.cell?_setCell_same _ _ _ h2,zc0 h3 (by omega),zc0 h4 (by omega),zc0 h5 (by omega)⟩,fun o=>by simpa using h.f o⟩
theorem DS.s3 {W:World}{O:Nat}(h:DS W O)(z:Int):DS (W.setCell ⟨O,3,none⟩ (.int .i64 z)) O:=by
 obtain⟨a,b,c,d,x,y,h0,h1,h2,h3,h4,h5⟩:=h.c
 exact⟨⟨a,b,c,z,x,y,zc0 h0 (by omega),zc0 h1 (by omega),zc0 h2 (by omega),World.cell?_setCell_same _ _ _ h3,zc0 h4 (by omega),zc0 h5 (by omega)⟩,fun o=>by simpa using h.f o⟩
theorem DS.s4 {W:World}{O:Nat}(h:DS W O)(z:Bool):DS (W.setCell ⟨O,4,none⟩ (.bool z)) O:=by
 obtain⟨a,b,c,d,x,y,h0,h1,h2,h3,h4,h5⟩:=h.c
 exact⟨⟨a,b,c,d,z,y,zc0 h0 (by omega),zc0 h1 (by omega),zc0 h2 (by omega),zc0 h3 (by omega),World.cell?_setCell_same _ _ _ h4,zc0 h5 (by omega)⟩,fun o=>by simpa using h.f o⟩
theorem DS.s5 {W:World}{O:Nat}(h:DS W O)(z:Bool):DS (W.setCell ⟨O,5,none⟩ (.bool z)) O:=by
 obtain⟨a,b,c,d,x,y,h0,h1,h2,h3,h4,h5⟩:=h.c
 exact⟨⟨a,b,c,d,x,z,zc0 h0 (by omega),zc0 h1 (by omega),zc0 h2 (by omega),zc0 h3 (by omega),zc0 h4 (by omega),World.cell?_setCell_same _ _ _ h5⟩,fun o=>by simpa using h.f o⟩
theorem ds_new (w:World)(a b c d:Int)(x y:Bool):DS (w.alloc (.cells #[.int .i64 a,.int .i64 b,.int .i64 c,.int .i64 d,.bool x,.bool y] 164)) w.heap.size:=
 ⟨⟨a,b,c,d,x,y,by simp[go_sem],by simp[go_sem],by simp[go_sem],by simp[go_sem],by simp[go_sem],by simp[go_sem]⟩,fun o=>by simp[go_sem]⟩
section
variable {α β:Type}{W:World}{k t e:TypeId}{ok:α→Prop}{κ:α→Value}{ν:β→Value}{b n:Nat}{D:α→Option β}
theorem MapIs.len_run (h:MapIs W k ok κ ν b n D)(ht:Try.prog.underlying t=some (.map k e))(ty:TypeId):(Builtin.len_ #[t] ty #[.map (some b)]).run Try.prog W=.ok (.int .i64 (n:Int)) W:=by
 obtain⟨es,clock,hb,hs,_⟩:=h.ex
 simp[Builtin.len_,run_underlying ht,MapKept.run_getObj_map hb,goInt,Result.andThen,hs]
end
theorem six_far {w:World}{A L:Nat}(h:A≠L){x:Value}(hx:w.cell? ⟨L,1,none⟩=some x)(hs:L<w.heap.size)(v0 v1 v2 v3 v4 v5:Value) :
  ((((((w.setCell ⟨A,0,none⟩ v0).setCell ⟨A,1,none⟩ v1).setCell ⟨A,2,none⟩ v2).setCell ⟨A,3,none⟩ v3).setCell ⟨A,4,none⟩ v4).setCell ⟨A,5,none⟩ v5).cell? ⟨L,1,none⟩=some x ∧
  L<((((((w.setCell ⟨A,0,none⟩ v0).setCell ⟨A,1,none⟩ v1).setCell ⟨A,2,none⟩ v2).setCell ⟨A,3,none⟩ v3).setCell ⟨A,4,none⟩ v4).setCell ⟨A,5,none⟩ v5).heap.size:=by
 have g:∀(w:World) o v,w.cell? ⟨L,1,none⟩=some x→(w.setCell ⟨A,o,none⟩ v).cell? ⟨L,1,none⟩=some x:=fun w o v hw=>(za1 w A o v).cell hw (by simp;omega)
 exact⟨g _ _ _ (g _ _ _ (g _ _ _ (g _ _ _ (g _ _ _ (g _ _ _ hx))))),by simpa using hs⟩
theorem six_other {w:World}{A O:Nat}(h:DS w O)(hne:O≠A)(v0 v1 v2 v3 v4 v5:Value) :
  DS ((((((w.setCell ⟨A,0,none⟩ v0).setCell ⟨A,1,none⟩ v1).setCell ⟨A,2,none⟩ v2).setCell ⟨A,3,none⟩ v3).setCell ⟨A,4,none⟩ v4).setCell ⟨A,5,none⟩ v5) O:=by
 have g:∀(w:World) o v,DS w O→DS (w.setCell ⟨A,o,none⟩ v) O:=fun w o v hw=>hw.kept (za1 w A o v) (by simp;omega)
 exact g _ _ _ (g _ _ _ (g _ _ _ (g _ _ _ (g _ _ _ (g _ _ _ h)))))
theorem six_ds {w:World}{O:Nat}(h:DS w O)(a b c d:Int)(x y:Bool) :
  DS ((((((w.setCell ⟨O,0,none⟩ (.int .i64 a)).setCell ⟨O,1,none⟩ (.int .i64 b)).setCell ⟨O,2,none⟩ (.int .i64 c)).setCell ⟨O,3,none⟩ (.int .i64 d)).setCell ⟨O,4,none⟩ (.bool x)).setCell ⟨O,5,none⟩ (.bool y)) O:=
 (((((h.s0 a).s1 b).s2 c).s3 d).s4 x).s5 y
theorem six_below {B:Nat}{w W:World}{A:Nat}(h:Below B w W)(hA:B≤A)(v0 v1 v2 v3 v4 v5:Value) :
  Below B w ((((((W.setCell ⟨A,0,none⟩ v0).setCell ⟨A,1,none⟩ v1).setCell ⟨A,2,none⟩ v2).setCell ⟨A,3,none⟩ v3).setCell ⟨A,4,none⟩ v4).setCell ⟨A,5,none⟩ v5):=by
 have g:∀(W:World) o v,Below B w W→Below B w (W.setCell ⟨A,o,none⟩ v):=fun W o v hw=>hw.setCell hA v
 exact g _ _ _ (g _ _ _ (g _ _ _ (g _ _ _ (g _ _ _ (g _ _ _ h)))))
theorem lt_al {L:Nat}{w:World}(h:L<w.heap.size)(o:Obj):L<(w.alloc o).heap.size:=by rw[World.size_alloc];omega
theorem describe_walk (G:Gl)(B L:Nat)(lv:Value)(mb:Nat)(v:Value)(ks:List Nat)(hks:∀k∈ks,k<4*G.n)(d2:Nat)(fv:Nat→Nat)(hfv:∀i,fv i<9223372036854775808)(w:World)(B0:Nat)(hB0:B0≤w.heap.size)(hG:GlAt B0 w v G)(hok:za9 G=true)(hL:LK w B L lv mb v ks)(hlen:ks.length≤4000)
  (hr:zb7 w d2 (16*G.n) (fun i=>(fv i:Int))) :
  Calls Try.prog 108 #[.pointer (some ⟨L,0,none⟩),.slice (some ⟨d2,0,none⟩) (16*G.n) (16*G.n)] w fun e w'=>(∃(a b c d:Int) (x y:Bool),e=.returned (.agg #[.int .i64 a,.int .i64 b,.int .i64 c,.int .i64 d,.bool x,.bool y]))∧Below w.heap.size w w':=by
 have hmm:=@run_makeMap Try.prog
 obtain⟨ga,cp,hlv⟩:=za8 hL.own
 have l1:=hL.c1
 rw[hlv] at l1
 obtain⟨m,hm⟩:∃m,m=ks.length:=⟨_,rfl⟩
 rw[←hm] at l1
 have hm4:m≤4000:=by omega
 have HL:=Lib.hid hL;clear hL
 have HG:=Lib.hid hG;clear hG
 have HOK:=Lib.hid hok;clear hok
 have HKS:=Hd3 hks hm hlv;clear hks hm hlv
 have HR:=Hd2 hr hfv;clear hr hfv
 go_enter Try.func108,Try.ntmps108
 go_wp2
 have l1a:=za4 l1
 have hLw:L<w.heap.size:=za0 l1
 have C0:∀o,(((w.alloc o).alloc (.cells #[.int .i64 0,.int .i64 0,.int .i64 0,.int .i64 0,.bool false,.bool false] 164)).drew).cell? ⟨w.heap.size+1,0,none⟩=some (Value.int .i64 0):=fun o=>by simp[go_sem]
 have F0:∀o,(((w.alloc o).alloc (.cells #[.int .i64 0,.int .i64 0,.int .i64 0,.int .i64 0,.bool false,.bool false] 164)).drew).frozen? ⟨w.heap.size+1,0,none⟩=false:=fun o=>by simp[go_sem]
 have C1:∀o,(((w.alloc o).alloc (.cells #[.int .i64 0,.int .i64 0,.int .i64 0,.int .i64 0,.bool false,.bool false] 164)).drew).cell? ⟨w.heap.size+1,1,none⟩=some (Value.int .i64 0):=fun o=>by simp[go_sem]
 have F1:∀o,(((w.alloc o).alloc (.cells #[.int .i64 0,.int .i64 0,.int .i64 0,.int .i64 0,.bool false,.bool false] 164)).drew).frozen? ⟨w.heap.size+1,1,none⟩=false:=fun o=>by simp[go_sem]
 have C2:∀o,(((w.alloc o).alloc (.cells #[.int .i64 0,.int .i64 0,.int .i64 0,.int .i64 0,.bool false,.bool false] 164)).drew).cell? ⟨w.heap.size+1,2,none⟩=some (Value.int .i64 0):=fun o=>by simp[go_sem]
 have F2:∀o,(((w.alloc o).alloc (.cells #[.int .i64 0,.int .i64 0,.int .i64 0,.int .i64 0,.bool false,.bool false] 164)).drew).frozen? ⟨w.heap.size+1,2,none⟩=false:=fun o=>by simp[go_sem]
 have C3:∀o,(((w.alloc o).alloc (.cells #[.int .i64 0,.int .i64 0,.int .i64 0,.int .i64 0,.bool false,.bool false] 164)).drew).cell? ⟨w.heap.size+1,3,none⟩=some (Value.int .i64 0):=fun o=>by simp[go_sem]
 have F3:∀o,(((w.alloc o).alloc (.cells #[.int .i64 0,.int .i64 0,.int .i64 0,.int .i64 0,.bool false,.bool false] 164)).drew).frozen? ⟨w.heap.size+1,3,none⟩=false:=fun o=>by simp[go_sem]
 have C4:∀o,(((w.alloc o).alloc (.cells #[.int .i64 0,.int .i64 0,.int .i64 0,.int .i64 0,.bool false,.bool false] 164)).drew).cell? ⟨w.heap.size+1,4,none⟩=some (Value.bool false):=fun o=>by simp[go_sem]
 have F4:∀o,(((w.alloc o).alloc (.cells #[.int .i64 0,.int .i64 0,.int .i64 0,.int .i64 0,.bool false,.bool false] 164)).drew).frozen? ⟨w.heap.size+1,4,none⟩=false:=fun o=>by simp[go_sem]
 have C5:∀o,(((w.alloc o).alloc (.cells #[.int .i64 0,.int .i64 0,.int .i64 0,.int .i64 0,.bool false,.bool false] 164)).drew).cell? ⟨w.heap.size+1,5,none⟩=some (Value.bool false):=fun o=>by simp[go_sem]
 have F5:∀o,(((w.alloc o).alloc (.cells #[.int .i64 0,.int .i64 0,.int .i64 0,.int .i64 0,.bool false,.bool false] 164)).drew).frozen? ⟨w.heap.size+1,5,none⟩=false:=fun o=>by simp[go_sem]
 have l1d:∀o,((w.alloc o).drew).cell? ⟨L,1,none⟩=some (.slice ga m cp):=fun o=>za4 l1 o
 have l1e:∀o o2,(((w.alloc o).alloc o2).drew).cell? ⟨L,1,none⟩=some (.slice ga m cp):=fun o o2=>za4 (za4 l1 o) o2
 have Xd:∀o,L<((w.alloc o).drew).heap.size:=fun o=>by simp;omega
 have Xe:∀o o2,L<(((w.alloc o).alloc o2).drew).heap.size:=fun o o2=>by simp;omega
 have hfar:∀o,(⟨w.heap.size+1,o,none⟩:Addr).block≠(⟨L,1,none⟩:Addr).block:=fun o=>by simp;omega
 have hAL:w.heap.size+1≠L:=by omega
 have X2:∀o o2,w.heap.size+1<(((w.alloc o).alloc o2).drew).heap.size:=fun o o2=>by simp
 have A1:=fun o=>orientable_walk G B L lv mb v ks HKS.out.1 (w.alloc o).drew B0 (by simp;omega) (HG.out.below (Below.mono (by (repeat' (first | assumption | exact Below.refl _ _ | refine za7 ?_ (by assumption) | refine zb2 ?_ _ | refine za5 ?_ | refine zb1 ?_ (by simp<;>omega) _))) hB0)) HOK.out (HL.out.below (by (repeat' (first | assumption | exact Below.refl _ _ | refine za7 ?_ (by assumption) | refine zb2 ?_ _ | refine za5 ?_ | refine zb1 ?_ (by simp<;>omega) _)))) hlen
 have A2:=fun o o2=>orientable_walk G B L lv mb v ks HKS.out.1 ((w.alloc o).alloc o2).drew B0 (by simp;omega) (HG.out.below (Below.mono (by (repeat' (first | assumption | exact Below.refl _ _ | refine za7 ?_ (by assumption) | refine zb2 ?_ _ | refine za5 ?_ | refine zb1 ?_ (by simp<;>omega) _))) hB0)) HOK.out (HL.out.below (by (repeat' (first | assumption | exact Below.refl _ _ | refine za7 ?_ (by assumption) | refine zb2 ?_ _ | refine za5 ?_ | refine zb1 ?_ (by simp<;>omega) _)))) hlen
 go_cut [5] from 11 to 18 (fun p wc=>∃O,p=.pointer (some ⟨O,0,none⟩)∧DS wc O∧DS wc w.heap.size∧Below w.heap.size w wc∧w.heap.size<O)
 case first=>
  go_region_held3 (fun w'=>w'.cell? ⟨L,1,none⟩=some (.slice ga m cp)∧L<w'.heap.size)
  (first
   |(with_reducible exact⟨l1d _,Xd _⟩)
   |(with_reducible exact⟨l1e _ _,Xe _ _⟩)
   |(with_reducible exact⟨(hb.cell (p:=⟨L,1,none⟩) (Xd _)).trans (l1d _),Nat.lt_of_lt_of_le (Xd _) hb.size⟩)
   |(with_reducible exact⟨(hb.cell (p:=⟨L,1,none⟩) (Xe _ _)).trans (l1e _ _),Nat.lt_of_lt_of_le (Xe _ _) hb.size⟩)
   |(with_reducible exact⟨za4 ((hb.cell (p:=⟨L,1,none⟩) (Xd _)).trans (l1d _)) _,lt_al (Nat.lt_of_lt_of_le (Xd _) hb.size) _⟩)
   |(with_reducible exact six_far hAL ((hb.cell (p:=⟨L,1,none⟩) (Xe _ _)).trans (l1e _ _)) (Nat.lt_of_lt_of_le (Xe _ _) hb.size) _ _ _ _ _ _)
   | go_keep)
  (first|(go_at_call 125;with_reducible refine (A1 _).mono ?_;rintro e w' ⟨⟨bo,rfl⟩,hb⟩)|(go_at_call 125;with_reducible refine (A2 _ _).mono ?_;rintro e w' ⟨⟨bo,rfl⟩,hb⟩;have a0:=(hb.cell (p:=⟨w.heap.size+1,0,none⟩) (X2 _ _)).trans (C0 _);have a1:=(hb.cell (p:=⟨w.heap.size+1,1,none⟩) (X2 _ _)).trans (C1 _);have a2:=(hb.cell (p:=⟨w.heap.size+1,2,none⟩) (X2 _ _)).trans (C2 _);have a3:=(hb.cell (p:=⟨w.heap.size+1,3,none⟩) (X2 _ _)).trans (C3 _);have a4:=(hb.cell (p:=⟨w.heap.size+1,4,none⟩) (X2 _ _)).trans (C4 _);have a5:=(hb.cell (p:=⟨w.heap.size+1,5,none⟩) (X2 _ _)).trans (C5 _);have g0:=(hb.frozen (p:=⟨w.heap.size+1,0,none⟩) (X2 _ _)).trans (F0 _);have g1:=(hb.frozen (p:=⟨w.heap.size+1,1,none⟩) (X2 _ _)).trans (F1 _);have g2:=(hb.frozen (p:=⟨w.heap.size+1,2,none⟩) (X2 _ _)).trans (F2 _);have g3:=(hb.frozen (p:=⟨w.heap.size+1,3,none⟩) (X2 _ _)).trans (F3 _);have g4:=(hb.frozen (p:=⟨w.heap.size+1,4,none⟩) (X2 _ _)).trans (F4 _);have g5:=(hb.frozen (p:=⟨w.heap.size+1,5,none⟩) (X2 _ _)).trans (F5 _)))
  all_goals (go_wp2_with fail;go_meet)
  ·have hs:=hb.size
   simp at hs
   have h0:DS w' w.heap.size:=((ds_new w 0 0 0 0 false false).kept (zb0 _ _) (row:=none) (by simp)).kept (za6 hb (Nat.le_refl _) none) (by simp)
   exact⟨_,rfl,ds_new _ _ _ _ _ _ _,h0.kept (World.grownBy_alloc _ _ none) (by simp),by (repeat' (first | assumption | exact Below.refl _ _ | refine za7 ?_ (by assumption) | refine zb2 ?_ _ | refine za5 ?_ | refine zb1 ?_ (by simp<;>omega) _)),by omega⟩
  ·have h1:DS w' w.heap.size:=(((ds_new w 0 0 0 0 false false).kept (World.grownBy_alloc _ _ none) (by simp)).kept (zb0 _ _) (row:=none) (by simp)).kept (za6 hb (Nat.le_refl _) none) (by simp)
   have h2:DS w' (w.heap.size+1):=((by have:=ds_new (w.alloc (.cells #[.int .i64 0,.int .i64 0,.int .i64 0,.int .i64 0,.bool false,.bool false] 164)) 0 0 0 0 false false;rwa [World.size_alloc] at this:DS ((w.alloc (.cells #[.int .i64 0,.int .i64 0,.int .i64 0,.int .i64 0,.bool false,.bool false] 164)).alloc (.cells #[.int .i64 0,.int .i64 0,.int .i64 0,.int .i64 0,.bool false,.bool false] 164)) (w.heap.size+1)).kept (zb0 _ _) (row:=none) (by simp)).kept (za6 hb (Nat.le_refl _) none) (by simp)
   have h3:Below w.heap.size w w':=by (repeat' (first | assumption | exact Below.refl _ _ | refine za7 ?_ (by assumption) | refine zb2 ?_ _ | refine za5 ?_ | refine zb1 ?_ (by simp<;>omega) _))
   exact⟨_,rfl,six_ds h2 _ _ _ _ _ _,six_other h1 (by omega) _ _ _ _ _ _,six_below h3 (by omega) _ _ _ _ _ _,by omega⟩
 case rest=>
  obtain⟨O,rfl,hO,hZ,hBc,hNO⟩:=hcut
  clear C0 F0 C1 F1 C2 F2 C3 F3 C4 F4 C5 F5 l1d l1e Xd Xe hfar hAL X2 A1 A2 l1a
  have l1c:=(hBc.cell (p:=⟨L,1,none⟩) hLw).trans l1
  have l1d:=za4 l1c
  have hM:=hO.lt
  have HC:=Hd3 hO hZ hBc;clear hO hZ hBc
  go_wp2
  refine zb3 fun W1 hW=>?_
  have h1:DS W1 O∧DS W1 w.heap.size∧MapIs W1 3 (fun a:Nat=>a<9223372036854775808) (fun a:Nat=>Value.int .i64 (a:Int)) Value.bool wc.heap.size 0 (fun _=>none)∧Below w.heap.size w W1:=by
   rw[hW]
   exact⟨HC.out.1.kept (World.grownBy_alloc _ _ none) (by simp),HC.out.2.1.kept (World.grownBy_alloc _ _ none) (by simp),MapIs.made wc,HC.out.2.2.alloc HC.out.2.2.size _⟩
  have hWM:wc.heap.size<W1.heap.size:=h1.2.2.1.lt
  clear hW hmm l1c l1d l1 HC
  generalize wc.heap.size=M at *
  generalize hN:w.heap.size=N at *
  have H1:=Lib.hid h1;clear h1
  go_loopw [25,7] (fun i s wr=>∃(k:Nat) (z:Int) (nn:Nat) (D:Nat→Option Bool),k≤m∧i=.int .i64 k∧s=.int .i64 z∧DS wr O∧DS wr N∧MapIs wr 3 (fun a:Nat=>a<9223372036854775808) (fun a:Nat=>Value.int .i64 (a:Int)) Value.bool M nn D∧Below N w wr) (fun i _ _=>m-(intOf i).toNat)
  case atStart=>exact⟨0,0,0,_,by omega,rfl,rfl,H1.out⟩
  case round=>
   clear H1
   obtain⟨k,z,nn,D,hk,rfl,rfl,hO,hZ,hm,hB⟩:=hrel
   have HK:=Hd4 hO hZ hm hB
   rcases Nat.lt_or_ge k m with hkm | hkm
   ·have hL2:=HL.out.below (hN▸hB:Below w.heap.size w wr)
    obtain⟨hks,hmk,hlv⟩:=HKS.out
    have hlm:0<ks.length:=by omega
    obtain⟨gl,cl,hgl,_,_⟩:=hL2.own.form hlm
    obtain⟨rfl,rfl⟩:ga=some ⟨gl,0,none⟩∧cp=cl:=by rw[hlv] at hgl;simpa using hgl
    have hjl:k<ks.length:=by omega
    have hcc:=crs_get ks k hjl
    obtain⟨kk,hkj⟩:∃kk,ks[k]=kk:=⟨_,rfl⟩
    have hkk4:kk<4*G.n:=hks kk (hkj▸List.getElem_mem hjl)
    rw[hkj] at hcc
    have b0:=hL2.own.cells (g:=gl) (by rw[hlv];rfl) _ _ hcc.1
    have b1:=hL2.own.cells (g:=gl) (by rw[hlv];rfl) _ _ hcc.2
    rw[Addr.add_mid,Nat.zero_add] at b0 b1
    obtain⟨t,i,ht,hi,rfl⟩:∃t i,t<G.n∧i<4∧kk=4*t+i:=⟨kk / 4,kk % 4,by omega,by omega,by omega⟩
    rw[show (4*t+i) / 4=t by omega,show 2*k=k*2 by omega] at b0
    rw[show (4*t+i) % 4=i by omega,show 2*k+1=k*2+1 by omega] at b1
    have k0:0≤(k:Int):=by omega
    have km:(k:Int)<(m:Int):=by omega
    clear hO hZ hm hB hL2 hks hmk hlv hgl hcc hkj
    go_wp2
    refine zb3 fun W3 hW=>?_
    have h3:DS W3 O∧DS W3 N∧MapIs W3 3 (fun a:Nat=>a<9223372036854775808) (fun a:Nat=>Value.int .i64 (a:Int)) Value.bool M nn D∧Below N w W3∧W3.cell? ⟨wr.heap.size,0,none⟩=some (.int .i64 (t:Int))∧W3.cell? ⟨wr.heap.size,1,none⟩=some (.int .i64 (i:Int)):=by
     rw[hW]
     have hal:=World.grownBy_alloc wr (.cells #[.int .i64 (t:Int),.int .i64 (i:Int)] 207) none
     exact⟨HK.out.1.kept hal (by simp),HK.out.2.1.kept hal (by simp),HK.out.2.2.1.kept hal (by simp),HK.out.2.2.2.alloc (by have:=HK.out.2.2.2.size;omega) _,by simp[go_sem],by simp[go_sem]⟩
    have hMA:M<wr.heap.size:=HK.out.2.2.1.lt
    generalize wr.heap.size=A9 at *
    have H3:=Lib.hid h3
    clear hW h3 HK b0 b1
    go_loopw [29,7] (fun j s wr=>∃(f:Nat) (z:Int) (nn:Nat) (D:Nat→Option Bool),f≤4∧j=.int .i64 f∧s=.int .i64 z∧DS wr O∧DS wr N∧MapIs wr 3 (fun a:Nat=>a<9223372036854775808) (fun a:Nat=>Value.int .i64 (a:Int)) Value.bool M nn D∧Below N w wr∧wr.cell? ⟨A9,0,none⟩=some (.int .i64 (t:Int))∧wr.cell? ⟨A9,1,none⟩=some (.int .i64 (i:Int))) (fun i _ _=>4-(intOf i).toNat)
    case atStart=>exact⟨0,_,_,_,by omega,rfl,rfl,H3.out⟩
    case round=>
     clear H3
     obtain⟨f,z,nn,D,hf,rfl,rfl,hO,hZ,hm,hB,y0,y1⟩:=hrel
     rcases Nat.lt_or_ge f 4 with hf4 | hf4
     ·by_cases hfi:f=i
      ·subst hfi
       have HK:=Hd6 hO hZ hm hB y0 y1
       clear hO hZ hm hB
       go_wp2
       go_roundw
       case rel=>exact⟨f+1,_,_,_,by omega,rfl,rfl,HK.out⟩
       case measure=>simp[intOf];omega
      ·have hfq:((f:Int)==(i:Int))=false:=zc4 hfi
       obtain⟨x1,hx1⟩:∃x,x=16*t:=⟨_,rfl⟩
       obtain⟨x2,hx2⟩:∃x,x=4*i:=⟨_,rfl⟩
       obtain⟨x3,hx3⟩:∃x,x=x1+x2:=⟨_,rfl⟩
       obtain⟨x4,hx4⟩:∃x,x=x3+f:=⟨_,rfl⟩
       have hn1:G.n≤1000:=by have:=HOK.out;simp[za9] at this;exact this.1
       have q1:IntKind.i64.wrap (16*(t:Int))=(x1:Int):=by rw[IntWalk.i64_in _ (by omega)];omega
       have q2:IntKind.i64.wrap (4*(i:Int))=(x2:Int):=by rw[IntWalk.i64_in _ (by omega)];omega
       have q3:IntKind.i64.wrap ((x1:Int)+(x2:Int))=(x3:Int):=by rw[IntWalk.i64_in _ (by omega)];omega
       have q4:IntKind.i64.wrap ((x3:Int)+(f:Int))=(x4:Int):=by rw[IntWalk.i64_in _ (by omega)];omega
       obtain⟨m16,hm16⟩:∃x,x=16*G.n:=⟨_,rfl⟩
       have hx4m:x4<m16:=by omega
       rw[←hm16]
       have hd:wr.cell? ⟨d2,x4,none⟩=some (.int .i64 (fv x4:Int)):=(hB.cell (p:=⟨d2,x4,none⟩) (by have:=HR.out.1.lt;show d2<N;omega)).trans (HR.out.1.cell (i:=x4) (by omega))
       have hfx:=HR.out.2 x4
       generalize fv x4=cx at *
       have hLr:=HL.out.below (hN▸hB:Below w.heap.size w wr)
       have cL:=hLr.c0
       have hGr:=HG.out.below (hB.mono hB0)
       obtain⟨a,b,off,cap,rfl,hga,hc⟩:=hGr
       obtain⟨rfl,hbB⟩:=hga (by omega)
       obtain⟨hp,_⟩:=hc (4*t+f) (by omega)
       rw[show off+5*(4*t+f)=off+t*20+f*5 by omega] at hp
       have tn:(t:Int)<(G.n:Int):=by omega
       have t0:0≤(t:Int):=by omega
       have f0:0≤(f:Int):=by omega
       have f4:(f:Int)<4:=by omega
       have hLM:L≠M:=by omega
       have hbM:b≠M:=by omega
       have hAM:A9≠M:=by omega
       generalize G.tet (4*t+f)=T at *
       have HK:=Hd6 hO hZ hm hB y0 y1
       clear hO hZ hm hB hLr hga hc hx1 hx2 hx3 hx4 hm16
       have hW4:∀W4:World,MapIs W4 3 (fun a:Nat=>a<9223372036854775808) (fun a:Nat=>Value.int .i64 (a:Int)) Value.bool M (if (D cx).isSome then nn else nn+1) (fun x=>if x=cx then some true else D x)→wr.grownBy W4 (some M)→W4.heap.size=wr.heap.size→DS W4 O∧DS W4 N∧MapIs W4 3 (fun a:Nat=>a<9223372036854775808) (fun a:Nat=>Value.int .i64 (a:Int)) Value.bool M (if (D cx).isSome then nn else nn+1) (fun x=>if x=cx then some true else D x)∧Below N w W4∧W4.cell? ⟨A9,0,none⟩=some (.int .i64 (t:Int))∧W4.cell? ⟨A9,1,none⟩=some (.int .i64 (i:Int)):=fun W4 h1 h2 h3=>
        ⟨HK.out.1.kept h2 (by simp;omega),HK.out.2.1.kept h2 (by simp;omega),h1,HK.out.2.2.2.1.grown h2 (by have:=HK.out.2.2.2.1.size;omega) (fun k hk=>by cases hk;omega),h2.cell HK.out.2.2.2.2.1 (by simp;omega),h2.cell HK.out.2.2.2.2.2 (by simp;omega)⟩
       by_cases hT:T<0
       ·go_wp2_with (refine zg3 (a:=cx) (c:=true) rfl 182 (.tmp 36) (.tmp 48) (.const (.bool true)) rfl codes_int und182 HK.out.2.2.1 hfx rfl rfl rfl ?_;intro W4 h1 h2 h3;have cL4:=h2.cell cL (by simp;exact hLM);have hp4:=h2.cell hp (by simp;exact hbM);have z0:=h2.cell y0 (by simp;exact hAM);have H4:=Lib.hid (hW4 W4 h1 h2 h3);clear h1 h2 h3 cL hp y0 y1 hW4 hd)
        obtain⟨a0,a1,a2,a3,x4,x5,c0,c1,c2,c3,c4,c5⟩:=H4.out.1.c
        have f0:=H4.out.1.f
        clear c0 c2 c3 c5
        go_still (by kernel_rfl)
        go_wp2
        go_roundw
        case rel=>
         obtain⟨r1,r2,r3,r4,r5,r6⟩:=H4.out
         exact⟨f+1,_,_,_,by omega,rfl,rfl,(DS.s1 (W:=W4.drew) (r1.kept (zb0 _ _) (row:=none) (by simp)) _).s4 _,((DS.kept (W':=W4.drew) r2 (zb0 _ _) (row:=none) (by simp)).kept (za1 _ O 1 _) (by simp;omega)).kept (za1 _ O 4 _) (by simp;omega),((MapIs.of_block (W':=W4.drew) r3 rfl).kept (za1 _ O 1 _) (by simp;omega)).kept (za1 _ O 4 _) (by simp;omega),((za5 r4).setCell (by show N≤O;omega) _).setCell (by show N≤O;omega) _,(za1 _ O 4 _).cell ((za1 _ O 1 _).cell (show W4.drew.cell? ⟨A9,0,none⟩=_ from r5) (by simp;omega)) (by simp;omega),(za1 _ O 4 _).cell ((za1 _ O 1 _).cell (show W4.drew.cell? ⟨A9,1,none⟩=_ from r6) (by simp;omega)) (by simp;omega)⟩
        case measure=>simp[intOf];omega
       ·go_wp2_with (refine zg3 (a:=cx) (c:=true) rfl 182 (.tmp 36) (.tmp 48) (.const (.bool true)) rfl codes_int und182 HK.out.2.2.1 hfx rfl rfl rfl ?_;intro W4 h1 h2 h3;have cL4:=h2.cell cL (by simp;exact hLM);have hp4:=h2.cell hp (by simp;exact hbM);have z0:=h2.cell y0 (by simp;exact hAM);have H4:=Lib.hid (hW4 W4 h1 h2 h3);clear h1 h2 h3 cL hp y0 y1 hW4 hd)
        go_still (by kernel_rfl)
        go_wp2
        go_roundw
        case rel=>
         obtain⟨r1,r2,r3,r4,r5,r6⟩:=H4.out
         exact⟨f+1,_,_,_,by omega,rfl,rfl,DS.kept (W':=W4.drew) r1 (zb0 _ _) (row:=none) (by simp),DS.kept (W':=W4.drew) r2 (zb0 _ _) (row:=none) (by simp),MapIs.of_block (W':=W4.drew) r3 rfl,za5 r4,r5,r6⟩
        case measure=>simp[intOf];omega
     ·obtain rfl:f=4:=by omega
      have HK:=Hd4 hO hZ hm hB
      clear hO hZ hm hB
      go_wp2
      go_roundw
      case rel=>exact⟨k+1,_,_,_,by omega,rfl,rfl,HK.out⟩
      case measure=>simp[intOf];omega
   ·obtain rfl:k=m:=by omega
    obtain⟨a0,a1,a2,a3,x4,x5,c0,c1,c2,c3,c4,c5⟩:=hO.c
    have f0:=hO.f
    obtain⟨e0,e1,e2,e3,ex4,ex5,d0,d1,d2',d3,d4,d5⟩:=hZ.c
    have f1:=hZ.f
    have hln:∀v,(Builtin.len_ #[182] 3 #[.map (some M)]).run Try.prog (wr.setCell ⟨O,1,none⟩ v)=.ok (.int .i64 (nn:Int)) (wr.setCell ⟨O,1,none⟩ v):=fun v=>(hm.kept (za1 wr O 1 v) (by simp;omega)).len_run und182 3
    clear hO hZ hm hB
    go_wp2
    refine bodyPost_ret (v:=.agg #[.int .i64 a0,.int .i64 (wrap64 (a1+wrap64 (z.tdiv 2))),.int .i64 nn,.int .i64 (wrap64 (wrap64 (↑nn-wrap64 (a1+wrap64 (z.tdiv 2)))+a0)),.bool x4,.bool x5]) (by simp[results,Try.results108,go_sem, *]) rfl ⟨⟨_,_,_,_,_,_,rfl⟩,?_⟩
    have hb:=HK.out.2.2.2
    rw[hN]
    refine six_below ?_ (Nat.le_refl _) _ _ _ _ _ _
    exact ((hb.setCell (by show N≤O;omega) _).setCell (by show N≤O;omega) _).setCell (by show N≤O;omega) _
end
section
open Go.RowKit Go.Shelf Go.Maps
theorem und49:Try.prog.underlying 49=some (.slice 84):=by kernel_rfl
theorem und50:Try.prog.underlying 50=some (.slice 162):=by kernel_rfl
theorem und51:Try.prog.underlying 51=some (.slice 4):=by kernel_rfl
theorem und52:Try.prog.underlying 52=some (.slice 164):=by kernel_rfl
theorem info4:(Try.prog.info? 4).map (fun i=>(i.zero,i.size,i.bytes))=some (some (.bool false),1,1):=by kernel_rfl
theorem info84:(Try.prog.info? 84).map (fun i=>(i.zero,i.size,i.bytes))=some (some (.agg #[.int .i64 0,.int .i64 0,.int .i64 0,.int .i64 0]),4,32):=by kernel_rfl
theorem info162:(Try.prog.info? 162).map (fun i=>(i.zero,i.size,i.bytes))=some (some (.agg #[.int .i64 0,.int .i64 0,.int .i64 0,.int .i64 0,.int .i64 0,.int .i64 0]),6,48):=by kernel_rfl
theorem info164:(Try.prog.info? 164).map (fun i=>(i.zero,i.size,i.bytes))=some (some (.agg #[.int .i64 0,.int .i64 0,.int .i64 0,.int .i64 0,.bool false,.bool false]),6,40):=by kernel_rfl
def ints (f:Nat→Nat)(m:Nat):List Value:=(List.range m).map fun i=>.int .i64 (f i:Int)
theorem ints_add (f:Nat→Nat)(m c:Nat):ints f (m+c)=ints f m++((List.range c).map fun i=>Value.int .i64 (f (m+i):Int)):=by
 simp[ints,List.range_add,Function.comp_def]
theorem ints_get (f:Nat→Nat)(m i:Nat)(hi:i<m):(ints f m)[i]?=some (.int .i64 (f i:Int)):=by
 simp[ints,hi]
def okO (o:Nat):Prop:=o=0∨o=1∨o=2∨o=5
def tyO (o:Nat):TypeId:=if o=1 then 162 else if o=5 then 164 else 84
def szO (o:Nat):Nat:=if o=1 then 6 else if o=5 then 6 else 4
def updO {α:Type}(q:Nat→α)(o:Nat)(x:α):Nat→α:=fun i=>if i=o then x else q i
theorem updO_same {α:Type}(q:Nat→α)(o:Nat)(x:α):updO q o x o=x:=by simp[updO]
theorem updO_other {α:Type}(q:Nat→α)(o i:Nat)(x:α)(h:i≠o):updO q o x i=q i:=by simp[updO,h]
structure SK (W:World)(K S dB rB sz:Nat)(q:Nat→Value)(c:Nat→Nat)(xs:Nat→List Value)(rev:Nat→Bool):Prop where
 cc:∀o,okO o→W.cell? ⟨S,o,none⟩=some (q o)
 c3:W.cell? ⟨S,3,none⟩=some (.slice (some ⟨dB,0,none⟩) sz sz)
 c4:W.cell? ⟨S,4,none⟩=some (.slice (some ⟨rB,0,none⟩) sz sz)
 fz:∀o,W.frozen? ⟨S,o,none⟩=false
 own:∀o,okO o→W.ownsRow K (tyO o) (szO o) (q o) (c o) (xs o)
 dr:∃g:Nat→Int,W.rowIs dB 3 sz (fun i=>.int .i64 (g i))
 rr:W.rowIs rB 4 sz (fun i=>.bool (rev i))
 ne:∀o,okO o→∀k,(q o).ownBlock=some k→k≠S∧k≠dB∧k≠rB∧∀o',okO o'→o'≠o→(q o').ownBlock≠some k
 lo:K≤S∧K≤dB∧K≤rB∧S≠dB∧S≠rB∧dB≠rB
variable {W W' W1 w1:World}{K S dB rB sz:Nat}{q:Nat→Value}{c:Nat→Nat}{xs:Nat→List Value}{rev:Nat→Bool}
theorem SK.kept (h:SK W K S dB rB sz q c xs rev)(hg:W.grownBy W' none):SK W' K S dB rB sz q c xs rev:=by
 have hS:=za0 h.c3
 exact⟨fun o ho=>hg.cell (h.cc o ho) (by simp),hg.cell h.c3 (by simp),hg.cell h.c4 (by simp),fun o=>(hg.frozen_far ⟨S,o,none⟩ hS (by simp)).trans (h.fz o),
  fun o ho=>(h.own o ho).kept hg (by cases (q o).ownBlock<;>simp),by obtain⟨g,hr⟩:=h.dr;exact⟨g,za3 hr hg (by simp)⟩,za3 h.rr hg (by simp),h.ne,h.lo⟩
theorem sc_other {W:World}{O o o':Nat}{x v:Value}(h:W.cell? ⟨O,o',none⟩=some x)(hne:o≠o'):(W.setCell ⟨O,o,none⟩ v).cell? ⟨O,o',none⟩=some x:=zc0 h hne
theorem SK.push (h:SK W K S dB rB sz q c xs rev){o m:Nat}(ho:okO o)(hm:m=c o+1){ys:List Value}(hga:W.grownBy W1 none){g cap:Nat}(hown:w1.ownsRow K (tyO o) (szO o) (.slice (some ⟨g,0,none⟩) m cap) m ys)
  (hgrow:W1.grownBy w1 (q o).ownBlock) (hat:(q o).ownBlock=some g∨g=W1.heap.size) :
  SK (w1.setCell ⟨S,o,none⟩ (.slice (some ⟨g,0,none⟩) m cap)) K S dB rB sz (updO q o (.slice (some ⟨g,0,none⟩) m cap)) (updO c o m) (updO xs o ys) rev:=by
 have h1:=h.kept hga
 have hS:S<W1.heap.size:=za0 h1.c3
 have hSo:∀o' k,okO o'→(q o').ownBlock=some k→k<W1.heap.size:=fun o' k ho' hk=>((h1.own o' ho').lt k hk).2
 obtain⟨gd,hd⟩:=h1.dr
 have hdl:=hd.lt
 have hrl:=h1.rr.lt
 have hneq:∀b:Nat,b<W1.heap.size→(∀k,(q o).ownBlock=some k→k≠b)→some b≠(q o).ownBlock:=fun b _ hk e=>hk b e.symm rfl
 have eS:some S≠(q o).ownBlock:=hneq S hS (fun k hk=>(h.ne o ho k hk).1)
 have ed:some dB≠(q o).ownBlock:=hneq dB hdl (fun k hk=>(h.ne o ho k hk).2.1)
 have er:some rB≠(q o).ownBlock:=hneq rB hrl (fun k hk=>(h.ne o ho k hk).2.2.1)
 have hgS:g≠S:=by
  rcases hat with e | e
  ·exact (h.ne o ho g e).1
  ·omega
 have hgd:g≠dB:=by
  rcases hat with e | e
  ·exact (h.ne o ho g e).2.1
  ·omega
 have hgr:g≠rB:=by
  rcases hat with e | e
  ·exact (h.ne o ho g e).2.2.1
  ·omega
 have hsc:=za1 w1 S o (.slice (some ⟨g,0,none⟩) m cap)
 obtain⟨l1,l2,l3,l4,l5,l6⟩:=h.lo
 have o3:o≠3:=by rcases ho with e | e | e | e<;>omega
 have o4:o≠4:=by rcases ho with e | e | e | e<;>omega
 refine⟨fun i hi=>?_,sc_other (hgrow.cell h1.c3 eS) o3,sc_other (hgrow.cell h1.c4 eS) o4,fun i=>?_,fun i hi=>?_,⟨gd,za3 (za3 hd hgrow ed) hsc (by simp;omega)⟩,za3 (za3 h1.rr hgrow er) hsc (by simp;omega),fun i hi k hk=>?_,h.lo⟩
 ·by_cases e:i=o
  ·subst e;rw[updO_same];exact World.cell?_setCell_same _ _ _ (hgrow.cell (h1.cc i hi) eS)
  ·rw[updO_other _ _ _ _ e];exact sc_other (hgrow.cell (h1.cc i hi) eS) (fun x=>e x.symm)
 ·rw[World.frozen?_setCell];exact (hgrow.frozen_far ⟨S,i,none⟩ hS eS).trans (h1.fz i)
 ·by_cases e:i=o
  ·subst e;simp only[updO_same];exact hown.kept hsc (.inr (by simp[Value.ownBlock];exact hgS))
  ·simp only[updO_other _ _ _ _ e]
   have h2:w1.ownsRow K (tyO i) (szO i) (q i) (c i) (xs i):=(h1.own i hi).kept hgrow (by
    cases hq:(q i).ownBlock with
    | none=>exact .inl rfl
    | some k=>exact .inr (fun z=>((h.ne o ho k z.symm).2.2.2 i hi e) hq))
   exact h2.kept hsc (by
    cases hq:(q i).ownBlock with
    | none=>exact .inl rfl
    | some k=>exact .inr (by simp;exact (h.ne i hi k hq).1))
 ·by_cases e:i=o
  ·subst e
   rw[updO_same] at hk
   simp[Value.ownBlock] at hk
   subst hk
   refine⟨hgS,hgd,hgr,fun o' ho' hne=>?_⟩
   rw[updO_other _ _ _ _ hne]
   intro z
   rcases hat with e | e
   ·exact (h.ne i ho g e).2.2.2 o' ho' hne z
   ·have:=hSo o' g ho' z;omega
  ·rw[updO_other _ _ _ _ e] at hk
   obtain⟨a1,a2,a3,a4⟩:=h.ne i hi k hk
   refine⟨a1,a2,a3,fun o' ho' hne=>?_⟩
   by_cases e2:o'=o
   ·subst e2
    rw[updO_same]
    simp only[Value.ownBlock,ne_eq,Option.some.injEq]
    intro z
    rcases hat with y | y
    ·subst z;exact a4 o' ho' hne y
    ·have:=hSo i k hi hk;omega
   ·rw[updO_other _ _ _ _ e2];exact a4 o' ho' hne
theorem SK.congr {c':Nat→Nat}{xs':Nat→List Value}{rev':Nat→Bool}(h:SK W K S dB rB sz q c xs rev)(h1:∀o,okO o→c o=c' o)(h2:∀o,okO o→xs o=xs' o)(h3:∀i,rev i=rev' i):SK W K S dB rB sz q c' xs' rev':=
 ⟨h.cc,h.c3,h.c4,h.fz,fun o ho=>by rw[←h1 o ho,←h2 o ho];exact h.own o ho,h.dr,by have:=h.rr;exact this.congr (fun i _=>by rw[h3]),h.ne,h.lo⟩
theorem SK.degree (h:SK W K S dB rB sz q c xs rev)(i:Nat)(x:Int):SK (W.setCell ⟨dB,i,none⟩ (.int .i64 x)) K S dB rB sz q c xs rev:=by
 obtain⟨gd,hd⟩:=h.dr
 have hsc:=za1 W dB i (.int .i64 x)
 obtain⟨l1,l2,l3,l4,l5,l6⟩:=h.lo
 refine⟨fun o ho=>hsc.cell (h.cc o ho) (by simp;omega),hsc.cell h.c3 (by simp;omega),hsc.cell h.c4 (by simp;omega),fun o=>by rw[World.frozen?_setCell];exact h.fz o,fun o ho=>?_,⟨fun j=>if j=i then x else gd j,?_⟩,za3 h.rr hsc (by simp;omega),h.ne,h.lo⟩
 ·refine (h.own o ho).kept hsc ?_
  cases hq:(q o).ownBlock with
  | none=>exact .inl rfl
  | some k=>exact .inr (by simp;exact (h.ne o ho k hq).2.1)
 ·exact (hd.set i _).congr (fun j _=>by by_cases e:j=i<;>simp[e])
theorem SK.reverse (h:SK W K S dB rB sz q c xs rev)(i:Nat):SK (W.setCell ⟨rB,i,none⟩ (.bool true)) K S dB rB sz q c xs (fun j=>if j=i then true else rev j):=by
 obtain⟨gd,hd⟩:=h.dr
 have hsc:=za1 W rB i (.bool true)
 obtain⟨l1,l2,l3,l4,l5,l6⟩:=h.lo
 refine⟨fun o ho=>hsc.cell (h.cc o ho) (by simp;omega),hsc.cell h.c3 (by simp;omega),hsc.cell h.c4 (by simp;omega),fun o=>by rw[World.frozen?_setCell];exact h.fz o,fun o ho=>?_,⟨gd,za3 hd hsc (by simp;omega)⟩,?_,h.ne,h.lo⟩
 ·refine (h.own o ho).kept hsc ?_
  cases hq:(q o).ownBlock with
  | none=>exact .inl rfl
  | some k=>exact .inr (by simp;exact (h.ne o ho k hq).2.2.1)
 ·exact (h.rr.set i _).congr (fun j _=>by by_cases e:j=i<;>simp[e])
theorem cnt_mono (r:Nat→Nat){i j:Nat}(h:i≤j):cnt r i≤cnt r j:=by
 induction j with
 | zero=>
  have:i=0:=by omega
  subst this;exact Nat.le_refl _
 | succ j ih=>
  by_cases e:i=j+1
  ·subst e;exact Nat.le_refl _
  ·have:=ih (by omega)
   simp only[cnt];split<;>omega
theorem cnt_lt (r:Nat→Nat){i n:Nat}(h1:r (r i)=r i)(h2:r i<n):cnt r (r i)<cnt r n:=by
 have:=cnt_mono r (show r i+1≤n by omega)
 simp only[cnt,h1,if_pos] at this
 omega
def vN (G:Gl)(i:Nat):Nat:=cnt (zb5 G).r1 ((zb5 G).r1 i)
def dN (G:Gl)(i:Nat):Nat:=cnt (zb5 G).r2 ((zb5 G).r2 i)
def eN (G:Gl)(i:Nat):Nat:=cnt (zb5 G).r3 ((zb5 G).r3 i)
def fN (G:Gl)(i:Nat):Nat:=cnt (zb5 G).r4 ((zb5 G).r4 i)
def nE (G:Gl):Nat:=cnt (zb5 G).r3 (6*G.n)
def nV (G:Gl):Nat:=cnt (zb5 G).r1 (4*G.n)
def rv1 (G:Gl)(m:Nat):Bool:=dN G (16*(m / 6)+4*pA (m % 6)+pB (m % 6))==dN G (16*(m / 6)+4*pB (m % 6)+pA (m % 6))
def revK (G:Gl):Nat→Nat→Bool
 | 0=>fun _=>false
 | m+1=>if rv1 G m then fun c=>if c=eN G m then true else revK G m c else revK G m
def rows (G:Gl)(t _l:Nat)(o:Nat):List Value:=if o=0 then ints (vN G) (4*t) else if o=1 then ints (eN G) (6*t) else ints (fN G) (4*t)
structure SkR (W:World)(B:Nat)(sv:Value)(G:Gl):Prop where
 ex:∃vv ev tv lv dB rB xs,sv=.agg #[vv,ev,tv,.slice (some ⟨dB,0,none⟩) (nE G) (nE G),.slice (some ⟨rB,0,none⟩) (nE G) (nE G),lv] ∧
  W.ownsRow B 84 4 vv G.n (ints (vN G) (4*G.n))∧W.ownsRow B 162 6 ev G.n (ints (eN G) (6*G.n))∧W.ownsRow B 84 4 tv G.n (ints (fN G) (4*G.n))∧W.ownsRow B 164 6 lv (nV G) xs ∧
  (∃g:Nat→Int,W.rowIs dB 3 (nE G) (fun i=>.int .i64 (g i)))∧W.rowIs rB 4 (nE G) (fun i=>.bool (revK G (6*G.n) i))∧B≤dB∧B≤rB
end
end Go.Proofs.Ytlckpgahijlmoaa
