/- A range over an iterator that runs until its loop leaves: the loop's invariant bounds what has come. No condition. -/
import Derived.Test.YtlckpgahijlmoaaQ05
import Derived.Test.YtlckpgahijlmoaaQ06
import Derived.Lib.QuietBelow
set_option maxRecDepth 100000
set_option maxHeartbeats 8000000
namespace Go.Proofs.Ytlckpgahijlmoaa
section
open Go.RowKit Go.Shelf Go.Sort
attribute [local go_sem] Oper.semAt_some
def Gl.p (G:Gl)(k:Nat):Nat→Int:=fun i=>G.pm k i
def noneB (G:Gl)(k:Nat):Bool:=G.tet k==-1 && all4 (fun i=>G.pm k i==0)
def Gl.back (G:Gl)(k:Nat):Nat:=4*(G.tet k).toNat+(G.pm k (k % 4)).toNat
def selfB (G:Gl)(k:Nat):Bool:=G.tet k==((k / 4:Nat):Int) && G.pm k (k % 4)==((k % 4:Nat):Int)
def inTetB (G:Gl)(k:Nat):Bool:=decide (0≤G.tet k) && decide (G.tet k<(G.n:Int))
def matchB (G:Gl)(k:Nat):Bool:=G.tet (G.back k)==((k / 4:Nat):Int) && all4 (fun i=>G.pm (G.back k) i==invF (G.p k) i)
def okB (G:Gl)(k:Nat):Bool:=noneB G k || (inTetB G k && zc9 (G.p k) && !selfB G k && matchB G k)
def za9 (G:Gl):Bool:=decide (G.n≤1000) && (List.range (4*G.n)).all (okB G)
def zd6 (G:Gl):Int:=if za9 G then 0 else 7
theorem blk_own {β:Type}(B:Nat)(c:Array Value)(t:TypeId):Own (fun (_:β) W=>W.heap[B]?=some (.cells c t (0,0))):=fun s X Y row hs hg hrow=>
 (hg.block B (Array.getElem?_eq_some_iff.1 hs).1 (fun e'=>by obtain⟨o,ho,hc⟩:=hrow B e'.symm;rw[hs] at ho;cases ho;cases hc)).trans hs
theorem Check_large (G:Gl)(v:Value)(w:World)(hG:GlAt w.heap.size w v G)(hn:1000<G.n)(hm:G.n≤9223372036854775807) :
  Calls Try.prog 57 #[.agg #[v]] w fun e w'=>e=.returned (.int .i64 7)∧Below w.heap.size w w':=by
 obtain⟨a,b,off,cap,rfl,_,_⟩:=hG
 go_enter Try.func57,Try.ntmps57
 go_wp2
 exact bodyPost_ret (v:=.int .i64 7) (by simp[results,Try.results57,go_sem]) rfl ⟨rfl,by (repeat' (first | assumption | exact Below.refl _ _ | refine za7 ?_ (by assumption) | refine zb2 ?_ _ | refine za5 ?_ | refine zb1 ?_ (by simp<;>omega) _))⟩
def rfBody:Code→Option Code
 | .seq a b=>match rfBody a with | some c=>some c | none=>rfBody b
 | .block _ b=>rfBody b
 | .loop b=>rfBody b
 | .scope b=>rfBody b
 | .cond _ t e=>match rfBody t with | some c=>some c | none=>rfBody e
 | .rangeFunc _ _ _ b=>some b
 | _=>none
def bodyOf (f:Func):Code:=match f.body with | some c=>(rfBody c).getD .skip | none=>.skip
section
variable {l m:Nat}{G:Gl}{k t f b1 b2 b3 b4 b5:Nat}{a:Option Addr}{b off cap:Nat}{W:World}{Q:Exit→Act→World→Prop}{s0 s6 s7 s8 s9 s10 s11 s12 s13 s14 s15 s16 s17 s18 s19 s20 s21 s22 s23 s24 s25 s26 s27 s28 s29 s30 s31 s32 s33 s34 s35 s36 s37 s38 s39 s40 s41 s42 s43 s44 s45 s46 s47 s48 s49 s50 s51 s52 s53 s54 s55 s56 s57 s58 s59 s60 s61 s62 s63 s64 s65 s66 s67 s68 s69 s70:Value}
theorem check_body_none (hno:noneB G k=true)(hN:∀a' W',Below W.heap.size W W'→Q .normal a' W')(x0:W.cell? ⟨b5,0,none⟩=some (.int .i64 (G.tet k)))(x1:W.cell? ⟨b5,1,none⟩=some (.int .i64 (G.pm k 0)))(x2:W.cell? ⟨b5,2,none⟩=some (.int .i64 (G.pm k 1)))(x3:W.cell? ⟨b5,3,none⟩=some (.int .i64 (G.pm k 2)))(x4:W.cell? ⟨b5,4,none⟩=some (.int .i64 (G.pm k 3)))(y0:W.cell? ⟨b3,0,none⟩=some (.int .i64 (-1)))(y1:W.cell? ⟨b3,1,none⟩=some (.int .i64 (0)))(y2:W.cell? ⟨b3,2,none⟩=some (.int .i64 (0)))(y3:W.cell? ⟨b3,3,none⟩=some (.int .i64 (0)))(y4:W.cell? ⟨b3,4,none⟩=some (.int .i64 (0))):(bodyOf Try.f57).wpIn (Fence.wide.inRound l) m Try.prog Q { tmps:=#[s0,.pointer (some ⟨b1,0,none⟩),.pointer (some ⟨b2,0,none⟩),.pointer (some ⟨b3,0,none⟩),.pointer (some ⟨b4,0,none⟩),.pointer (some ⟨b5,0,none⟩),s6,s7,s8,s9,s10,s11,s12,s13,s14,s15,s16,s17,s18,s19,s20,s21,s22,s23,s24,s25,s26,s27,s28,s29,s30,s31,s32,s33,s34,s35,s36,s37,s38,s39,s40,s41,s42,s43,s44,s45,s46,s47,s48,s49,s50,s51,s52,s53,s54,s55,s56,s57,s58,s59,s60,s61,s62,s63,s64,s65,s66,s67,s68,s69,s70],defers:=[] } W:=by
 simp only[bodyOf,rfBody,Try.f57,Option.getD_some]
 have HN:=Lib.hid hN;clear hN
 have he:=run_equal_P4'
 simp only[noneB,all4,Bool.and_eq_true,beq_iff_eq] at hno
 obtain⟨e0,⟨⟨e1,e2⟩,e3⟩,e4⟩:=hno
 gi_wp2
 exact HN.out _ _ (Below.refl _ _)
theorem check_body_neg (hno:noneB G k=false)(hneg:G.tet k<0)(hR:∀a' W',Below W.heap.size W W'→Q .ret a' (W'.setCell ⟨b2,0,none⟩ (.int .i64 7)))(x0:W.cell? ⟨b5,0,none⟩=some (.int .i64 (G.tet k)))(x1:W.cell? ⟨b5,1,none⟩=some (.int .i64 (G.pm k 0)))(x2:W.cell? ⟨b5,2,none⟩=some (.int .i64 (G.pm k 1)))(x3:W.cell? ⟨b5,3,none⟩=some (.int .i64 (G.pm k 2)))(x4:W.cell? ⟨b5,4,none⟩=some (.int .i64 (G.pm k 3)))(y0:W.cell? ⟨b3,0,none⟩=some (.int .i64 (-1)))(y1:W.cell? ⟨b3,1,none⟩=some (.int .i64 (0)))(y2:W.cell? ⟨b3,2,none⟩=some (.int .i64 (0)))(y3:W.cell? ⟨b3,3,none⟩=some (.int .i64 (0)))(y4:W.cell? ⟨b3,4,none⟩=some (.int .i64 (0)))(z0:W.cell? ⟨b4,0,none⟩=some (.int .i64 (t:Int)))(z1:W.cell? ⟨b4,1,none⟩=some (.int .i64 (f:Int)))(r0:W.cell? ⟨b2,0,none⟩=some (.int .i64 0))(rf:W.frozen? ⟨b2,0,none⟩=false)(v0:W.cell? ⟨b1,0,none⟩=some (.slice a G.n cap)):(bodyOf Try.f57).wpIn (Fence.wide.inRound l) m Try.prog Q { tmps:=#[s0,.pointer (some ⟨b1,0,none⟩),.pointer (some ⟨b2,0,none⟩),.pointer (some ⟨b3,0,none⟩),.pointer (some ⟨b4,0,none⟩),.pointer (some ⟨b5,0,none⟩),s6,s7,s8,s9,s10,s11,s12,s13,s14,s15,s16,s17,s18,s19,s20,s21,s22,s23,s24,s25,s26,s27,s28,s29,s30,s31,s32,s33,s34,s35,s36,s37,s38,s39,s40,s41,s42,s43,s44,s45,s46,s47,s48,s49,s50,s51,s52,s53,s54,s55,s56,s57,s58,s59,s60,s61,s62,s63,s64,s65,s66,s67,s68,s69,s70],defers:=[] } W:=by
 simp only[bodyOf,rfBody,Try.f57,Option.getD_some]
 have HR:=Lib.hid hR;clear hR
 have he:=fun w=>zc5 (G.tet k) (-1) (G.pm k 0) (G.pm k 1) (G.pm k 2) (G.pm k 3) 0 0 0 0 w
 have hno':(G.tet k==-1 && (G.pm k 0==0 && (G.pm k 1==0 && (G.pm k 2==0 && G.pm k 3==0))))=false:=by simpa [noneB,all4,Bool.and_assoc] using hno
 simp only[hno'] at he
 clear hno hno'
 gi_wp2_with fail
 clear he
 have kx0:=cell_regrown x0
 have kx1:=cell_regrown x1
 have kx2:=cell_regrown x2
 have kx3:=cell_regrown x3
 have kx4:=cell_regrown x4
 have kz0:=cell_regrown z0
 have kz1:=cell_regrown z1
 have kv:=cell_regrown v0
 have kr:=cell_regrown r0
 have kf:∀d os,(grow (redrawn W d) os).frozen? ⟨b2,0,none⟩=false:=fun d os=>((below_regrown W d os).frozen (p:=⟨b2,0,none⟩) (World.block_lt_of_cell? W _ r0)).trans rf
 refine ze6 (fun w'=>∃p:Regrown,w'=grow (redrawn W p.d) p.os) (by kernel_rfl) (by kernel_rfl) (by kernel_rfl) ⟨⟨W.drawn+1,#[]⟩,by rw[grow_empty];rfl⟩ ?_
 repeat (go_big_quiet_step (first | exact cV _ _))
 refine wpQuiet_nil ?_
 rintro w' ⟨⟨d,os⟩,rfl⟩
 gi_wp2
 exact HR.out _ _ (below_regrown W d os)
theorem check_body_big (hno:noneB G k=false)(h0:0≤G.tet k)(h1:(G.n:Int)≤G.tet k)(hR:∀a' W',Below W.heap.size W W'→Q .ret a' (W'.setCell ⟨b2,0,none⟩ (.int .i64 7)))(x0:W.cell? ⟨b5,0,none⟩=some (.int .i64 (G.tet k)))(x1:W.cell? ⟨b5,1,none⟩=some (.int .i64 (G.pm k 0)))(x2:W.cell? ⟨b5,2,none⟩=some (.int .i64 (G.pm k 1)))(x3:W.cell? ⟨b5,3,none⟩=some (.int .i64 (G.pm k 2)))(x4:W.cell? ⟨b5,4,none⟩=some (.int .i64 (G.pm k 3)))(y0:W.cell? ⟨b3,0,none⟩=some (.int .i64 (-1)))(y1:W.cell? ⟨b3,1,none⟩=some (.int .i64 (0)))(y2:W.cell? ⟨b3,2,none⟩=some (.int .i64 (0)))(y3:W.cell? ⟨b3,3,none⟩=some (.int .i64 (0)))(y4:W.cell? ⟨b3,4,none⟩=some (.int .i64 (0)))(z0:W.cell? ⟨b4,0,none⟩=some (.int .i64 (t:Int)))(z1:W.cell? ⟨b4,1,none⟩=some (.int .i64 (f:Int)))(r0:W.cell? ⟨b2,0,none⟩=some (.int .i64 0))(rf:W.frozen? ⟨b2,0,none⟩=false)(v0:W.cell? ⟨b1,0,none⟩=some (.slice a G.n cap)):(bodyOf Try.f57).wpIn (Fence.wide.inRound l) m Try.prog Q { tmps:=#[s0,.pointer (some ⟨b1,0,none⟩),.pointer (some ⟨b2,0,none⟩),.pointer (some ⟨b3,0,none⟩),.pointer (some ⟨b4,0,none⟩),.pointer (some ⟨b5,0,none⟩),s6,s7,s8,s9,s10,s11,s12,s13,s14,s15,s16,s17,s18,s19,s20,s21,s22,s23,s24,s25,s26,s27,s28,s29,s30,s31,s32,s33,s34,s35,s36,s37,s38,s39,s40,s41,s42,s43,s44,s45,s46,s47,s48,s49,s50,s51,s52,s53,s54,s55,s56,s57,s58,s59,s60,s61,s62,s63,s64,s65,s66,s67,s68,s69,s70],defers:=[] } W:=by
 have d0:decide (G.tet k<0)=false:=by simpa using h0
 simp only[bodyOf,rfBody,Try.f57,Option.getD_some]
 have HR:=Lib.hid hR;clear hR
 have he:=fun w=>zc5 (G.tet k) (-1) (G.pm k 0) (G.pm k 1) (G.pm k 2) (G.pm k 3) 0 0 0 0 w
 have hno':(G.tet k==-1 && (G.pm k 0==0 && (G.pm k 1==0 && (G.pm k 2==0 && G.pm k 3==0))))=false:=by simpa [noneB,all4,Bool.and_assoc] using hno
 simp only[hno'] at he
 clear hno hno'
 gi_wp2_with fail
 clear he
 have kx0:=cell_regrown x0
 have kx1:=cell_regrown x1
 have kx2:=cell_regrown x2
 have kx3:=cell_regrown x3
 have kx4:=cell_regrown x4
 have kz0:=cell_regrown z0
 have kz1:=cell_regrown z1
 have kv:=cell_regrown v0
 have kr:=cell_regrown r0
 have kf:∀d os,(grow (redrawn W d) os).frozen? ⟨b2,0,none⟩=false:=fun d os=>((below_regrown W d os).frozen (p:=⟨b2,0,none⟩) (World.block_lt_of_cell? W _ r0)).trans rf
 refine ze6 (fun w'=>∃p:Regrown,w'=grow (redrawn W p.d) p.os) (by kernel_rfl) (by kernel_rfl) (by kernel_rfl) ⟨⟨W.drawn+1,#[]⟩,by rw[grow_empty];rfl⟩ ?_
 repeat (go_big_quiet_step (first | exact cV _ _))
 refine wpQuiet_nil ?_
 rintro w' ⟨⟨d,os⟩,rfl⟩
 gi_wp2
 exact HR.out _ _ (below_regrown W d os)
theorem check_body_inval (hno:noneB G k=false)(h0:0≤G.tet k)(h1:G.tet k<(G.n:Int))(hv:zc9 (G.p k)=false)(hR:∀a' W',Below W.heap.size W W'→Q .ret a' (W'.setCell ⟨b2,0,none⟩ (.int .i64 7)))(x0:W.cell? ⟨b5,0,none⟩=some (.int .i64 (G.tet k)))(x1:W.cell? ⟨b5,1,none⟩=some (.int .i64 (G.pm k 0)))(x2:W.cell? ⟨b5,2,none⟩=some (.int .i64 (G.pm k 1)))(x3:W.cell? ⟨b5,3,none⟩=some (.int .i64 (G.pm k 2)))(x4:W.cell? ⟨b5,4,none⟩=some (.int .i64 (G.pm k 3)))(y0:W.cell? ⟨b3,0,none⟩=some (.int .i64 (-1)))(y1:W.cell? ⟨b3,1,none⟩=some (.int .i64 (0)))(y2:W.cell? ⟨b3,2,none⟩=some (.int .i64 (0)))(y3:W.cell? ⟨b3,3,none⟩=some (.int .i64 (0)))(y4:W.cell? ⟨b3,4,none⟩=some (.int .i64 (0)))(z0:W.cell? ⟨b4,0,none⟩=some (.int .i64 (t:Int)))(z1:W.cell? ⟨b4,1,none⟩=some (.int .i64 (f:Int)))(r0:W.cell? ⟨b2,0,none⟩=some (.int .i64 0))(rf:W.frozen? ⟨b2,0,none⟩=false)(v0:W.cell? ⟨b1,0,none⟩=some (.slice a G.n cap)):(bodyOf Try.f57).wpIn (Fence.wide.inRound l) m Try.prog Q { tmps:=#[s0,.pointer (some ⟨b1,0,none⟩),.pointer (some ⟨b2,0,none⟩),.pointer (some ⟨b3,0,none⟩),.pointer (some ⟨b4,0,none⟩),.pointer (some ⟨b5,0,none⟩),s6,s7,s8,s9,s10,s11,s12,s13,s14,s15,s16,s17,s18,s19,s20,s21,s22,s23,s24,s25,s26,s27,s28,s29,s30,s31,s32,s33,s34,s35,s36,s37,s38,s39,s40,s41,s42,s43,s44,s45,s46,s47,s48,s49,s50,s51,s52,s53,s54,s55,s56,s57,s58,s59,s60,s61,s62,s63,s64,s65,s66,s67,s68,s69,s70],defers:=[] } W:=by
 have d0:decide (G.tet k<0)=false:=by simpa using h0
 have d1:decide ((G.n:Int)≤G.tet k)=false:=by simpa using h1
 have cV:∀d os,Calls Try.prog 82 #[.agg #[Value.int .i64 (G.pm k 0),Value.int .i64 (G.pm k 1),Value.int .i64 (G.pm k 2),Value.int .i64 (G.pm k 3)]] (grow (redrawn W d) os) fun e w''=>e=.returned (.bool false)∧∃p:Regrown,w''=grow (redrawn W p.d) p.os:=fun d os=>Calls.regrown_of (hv▸valid_walk (G.p k) _)
 clear hv
 simp only[bodyOf,rfBody,Try.f57,Option.getD_some]
 have HR:=Lib.hid hR;clear hR
 have he:=fun w=>zc5 (G.tet k) (-1) (G.pm k 0) (G.pm k 1) (G.pm k 2) (G.pm k 3) 0 0 0 0 w
 have hno':(G.tet k==-1 && (G.pm k 0==0 && (G.pm k 1==0 && (G.pm k 2==0 && G.pm k 3==0))))=false:=by simpa [noneB,all4,Bool.and_assoc] using hno
 simp only[hno'] at he
 clear hno hno'
 gi_wp2_with fail
 clear he
 have kx0:=cell_regrown x0
 have kx1:=cell_regrown x1
 have kx2:=cell_regrown x2
 have kx3:=cell_regrown x3
 have kx4:=cell_regrown x4
 have kz0:=cell_regrown z0
 have kz1:=cell_regrown z1
 have kv:=cell_regrown v0
 have kr:=cell_regrown r0
 have kf:∀d os,(grow (redrawn W d) os).frozen? ⟨b2,0,none⟩=false:=fun d os=>((below_regrown W d os).frozen (p:=⟨b2,0,none⟩) (World.block_lt_of_cell? W _ r0)).trans rf
 refine ze6 (fun w'=>∃p:Regrown,w'=grow (redrawn W p.d) p.os) (by kernel_rfl) (by kernel_rfl) (by kernel_rfl) ⟨⟨W.drawn+1,#[]⟩,by rw[grow_empty];rfl⟩ ?_
 repeat (go_big_quiet_step (first | exact cV _ _))
 refine wpQuiet_nil ?_
 rintro w' ⟨⟨d,os⟩,rfl⟩
 gi_wp2
 exact HR.out _ _ (below_regrown W d os)
theorem check_body_self (hno:noneB G k=false)(hf:f<4)(h0:0≤G.tet k)(h1:G.tet k<(G.n:Int))(hv:zc9 (G.p k)=true)(e1:(G.tet k==(t:Int))=true)(e2:(G.pm k f==(f:Int))=true)(hR:∀a' W',Below W.heap.size W W'→Q .ret a' (W'.setCell ⟨b2,0,none⟩ (.int .i64 7)))(x0:W.cell? ⟨b5,0,none⟩=some (.int .i64 (G.tet k)))(x1:W.cell? ⟨b5,1,none⟩=some (.int .i64 (G.pm k 0)))(x2:W.cell? ⟨b5,2,none⟩=some (.int .i64 (G.pm k 1)))(x3:W.cell? ⟨b5,3,none⟩=some (.int .i64 (G.pm k 2)))(x4:W.cell? ⟨b5,4,none⟩=some (.int .i64 (G.pm k 3)))(y0:W.cell? ⟨b3,0,none⟩=some (.int .i64 (-1)))(y1:W.cell? ⟨b3,1,none⟩=some (.int .i64 (0)))(y2:W.cell? ⟨b3,2,none⟩=some (.int .i64 (0)))(y3:W.cell? ⟨b3,3,none⟩=some (.int .i64 (0)))(y4:W.cell? ⟨b3,4,none⟩=some (.int .i64 (0)))(z0:W.cell? ⟨b4,0,none⟩=some (.int .i64 (t:Int)))(z1:W.cell? ⟨b4,1,none⟩=some (.int .i64 (f:Int)))(r0:W.cell? ⟨b2,0,none⟩=some (.int .i64 0))(rf:W.frozen? ⟨b2,0,none⟩=false)(v0:W.cell? ⟨b1,0,none⟩=some (.slice a G.n cap)):(bodyOf Try.f57).wpIn (Fence.wide.inRound l) m Try.prog Q { tmps:=#[s0,.pointer (some ⟨b1,0,none⟩),.pointer (some ⟨b2,0,none⟩),.pointer (some ⟨b3,0,none⟩),.pointer (some ⟨b4,0,none⟩),.pointer (some ⟨b5,0,none⟩),s6,s7,s8,s9,s10,s11,s12,s13,s14,s15,s16,s17,s18,s19,s20,s21,s22,s23,s24,s25,s26,s27,s28,s29,s30,s31,s32,s33,s34,s35,s36,s37,s38,s39,s40,s41,s42,s43,s44,s45,s46,s47,s48,s49,s50,s51,s52,s53,s54,s55,s56,s57,s58,s59,s60,s61,s62,s63,s64,s65,s66,s67,s68,s69,s70],defers:=[] } W:=by
 have d0:decide (G.tet k<0)=false:=by simpa using h0
 have d1:decide ((G.n:Int)≤G.tet k)=false:=by simpa using h1
 have cV:∀d os,Calls Try.prog 82 #[.agg #[Value.int .i64 (G.pm k 0),Value.int .i64 (G.pm k 1),Value.int .i64 (G.pm k 2),Value.int .i64 (G.pm k 3)]] (grow (redrawn W d) os) fun e w''=>e=.returned (.bool true)∧∃p:Regrown,w''=grow (redrawn W p.d) p.os:=fun d os=>Calls.regrown_of (hv▸valid_walk (G.p k) _)
 clear hv
 have xf:W.cell? ⟨b5,1+f,none⟩=some (.int .i64 (G.pm k f)):=by
  have h4:f=0∨f=1∨f=2∨f=3:=by omega
  rcases h4 with h | h | h | h<;>rw[h]
  ·exact x1
  ·exact x2
  ·exact x3
  ·exact x4
 have kxf:=cell_regrown xf
 simp only[bodyOf,rfBody,Try.f57,Option.getD_some]
 have HR:=Lib.hid hR;clear hR
 have he:=fun w=>zc5 (G.tet k) (-1) (G.pm k 0) (G.pm k 1) (G.pm k 2) (G.pm k 3) 0 0 0 0 w
 have hno':(G.tet k==-1 && (G.pm k 0==0 && (G.pm k 1==0 && (G.pm k 2==0 && G.pm k 3==0))))=false:=by simpa [noneB,all4,Bool.and_assoc] using hno
 simp only[hno'] at he
 clear hno hno'
 gi_wp2_with fail
 clear he
 have kx0:=cell_regrown x0
 have kx1:=cell_regrown x1
 have kx2:=cell_regrown x2
 have kx3:=cell_regrown x3
 have kx4:=cell_regrown x4
 have kz0:=cell_regrown z0
 have kz1:=cell_regrown z1
 have kv:=cell_regrown v0
 have kr:=cell_regrown r0
 have kf:∀d os,(grow (redrawn W d) os).frozen? ⟨b2,0,none⟩=false:=fun d os=>((below_regrown W d os).frozen (p:=⟨b2,0,none⟩) (World.block_lt_of_cell? W _ r0)).trans rf
 refine ze6 (fun w'=>∃p:Regrown,w'=grow (redrawn W p.d) p.os) (by kernel_rfl) (by kernel_rfl) (by kernel_rfl) ⟨⟨W.drawn+1,#[]⟩,by rw[grow_empty];rfl⟩ ?_
 repeat (go_big_quiet_step (first | exact cV _ _))
 refine wpQuiet_nil ?_
 rintro w' ⟨⟨d,os⟩,rfl⟩
 gi_wp2
 exact HR.out _ _ (below_regrown W d os)
end
end
section
open Go.RowKit Go.Shelf Go.Sort
attribute [local go_sem] Oper.semAt_some
section
variable {l m:Nat}{G:Gl}{k t f b1 b2 b3 b4 b5:Nat}{a:Option Addr}{b off cap:Nat}{W:World}{Q:Exit→Act→World→Prop}{s0 s6 s7 s8 s9 s10 s11 s12 s13 s14 s15 s16 s17 s18 s19 s20 s21 s22 s23 s24 s25 s26 s27 s28 s29 s30 s31 s32 s33 s34 s35 s36 s37 s38 s39 s40 s41 s42 s43 s44 s45 s46 s47 s48 s49 s50 s51 s52 s53 s54 s55 s56 s57 s58 s59 s60 s61 s62 s63 s64 s65 s66 s67 s68 s69 s70:Value}
theorem check_body_pair (j:Nat)(hf:f<4)(h0:0≤G.tet k)(h1:G.tet k<(G.n:Int))(hy0:0≤G.pm k f)(hy1:G.pm k f<4)(_hn:G.n≤1000)(hno:(G.tet k==-1 && (G.pm k 0==0 && (G.pm k 1==0 && (G.pm k 2==0 && G.pm k 3==0))))=false)(hv:zc9 (G.pm k)=true)(bs bm:Bool)(e1:(G.tet k==(t:Int))=bs)(e2:bs=true→(G.pm k f==(f:Int))=false)(hm:(G.tet j==(t:Int) && (G.pm j 0==invF (G.pm k) 0 && (G.pm j 1==invF (G.pm k) 1 && (G.pm j 2==invF (G.pm k) 2 && G.pm j 3==invF (G.pm k) 3))))=bm)(hN:bm=true→∀a' W',Below W.heap.size W W'→Q .normal a' W')(hR:bm=false→∀a' W',Below W.heap.size W W'→Q .ret a' (W'.setCell ⟨b2,0,none⟩ (.int .i64 7)))(x0:W.cell? ⟨b5,0,none⟩=some (.int .i64 (G.tet k)))(x1:W.cell? ⟨b5,1,none⟩=some (.int .i64 (G.pm k 0)))(x2:W.cell? ⟨b5,2,none⟩=some (.int .i64 (G.pm k 1)))(x3:W.cell? ⟨b5,3,none⟩=some (.int .i64 (G.pm k 2)))(x4:W.cell? ⟨b5,4,none⟩=some (.int .i64 (G.pm k 3)))(y0:W.cell? ⟨b3,0,none⟩=some (.int .i64 (-1)))(y1:W.cell? ⟨b3,1,none⟩=some (.int .i64 (0)))(y2:W.cell? ⟨b3,2,none⟩=some (.int .i64 (0)))(y3:W.cell? ⟨b3,3,none⟩=some (.int .i64 (0)))(y4:W.cell? ⟨b3,4,none⟩=some (.int .i64 (0)))(z0:W.cell? ⟨b4,0,none⟩=some (.int .i64 (t:Int)))(z1:W.cell? ⟨b4,1,none⟩=some (.int .i64 (f:Int)))(r0:W.cell? ⟨b2,0,none⟩=some (.int .i64 0))(rf:W.frozen? ⟨b2,0,none⟩=false)(v0:W.cell? ⟨b1,0,none⟩=some (.slice (some ⟨b,off,none⟩) G.n cap))(xf:W.cell? ⟨b5,1+f,none⟩=some (.int .i64 (G.pm k f)))(g0:W.cell? ⟨b,off+(G.tet k).toNat*20+(G.pm k f).toNat*5,none⟩=some (.int .i64 (G.tet j)))(g1:W.cell? ⟨b,off+(G.tet k).toNat*20+(G.pm k f).toNat*5+1,none⟩=some (.int .i64 (G.pm j 0)))(g2:W.cell? ⟨b,off+(G.tet k).toNat*20+(G.pm k f).toNat*5+2,none⟩=some (.int .i64 (G.pm j 1)))(g3:W.cell? ⟨b,off+(G.tet k).toNat*20+(G.pm k f).toNat*5+3,none⟩=some (.int .i64 (G.pm j 2)))(g4:W.cell? ⟨b,off+(G.tet k).toNat*20+(G.pm k f).toNat*5+4,none⟩=some (.int .i64 (G.pm j 3))):(bodyOf Try.f57).wpIn (Fence.wide.inRound l) m Try.prog Q { tmps:=#[s0,.pointer (some ⟨b1,0,none⟩),.pointer (some ⟨b2,0,none⟩),.pointer (some ⟨b3,0,none⟩),.pointer (some ⟨b4,0,none⟩),.pointer (some ⟨b5,0,none⟩),s6,s7,s8,s9,s10,s11,s12,s13,s14,s15,s16,s17,s18,s19,s20,s21,s22,s23,s24,s25,s26,s27,s28,s29,s30,s31,s32,s33,s34,s35,s36,s37,s38,s39,s40,s41,s42,s43,s44,s45,s46,s47,s48,s49,s50,s51,s52,s53,s54,s55,s56,s57,s58,s59,s60,s61,s62,s63,s64,s65,s66,s67,s68,s69,s70],defers:=[] } W:=by
 simp only[bodyOf,rfBody,Try.f57,Option.getD_some]
 have HN:=Hd2 hN hR
 clear hN hR
 rcases (show (bs=false∧bm=true)∨(bs=false∧bm=false)∨(bs=true∧bm=true)∨(bs=true∧bm=false) by cases bs<;>cases bm<;>simp) with ⟨rfl,rfl⟩ | ⟨rfl,rfl⟩ | ⟨rfl,rfl⟩ | ⟨rfl,rfl⟩
 all_goals
  simp only[forall_const,reduceCtorEq,false_implies] at e2
  have he:=fun w=>zc5 (G.tet k) (-1) (G.pm k 0) (G.pm k 1) (G.pm k 2) (G.pm k 3) 0 0 0 0 w
  simp only[hno] at he
  clear hno
  have d0:decide (G.tet k<0)=false:=by simpa using h0
  have d1:decide ((G.n:Int)≤G.tet k)=false:=by simpa using h1
  have hinv:=all4_iff.1 (by simp only[zc9,Bool.and_eq_true] at hv;exact hv.1:all4 (fun i=>inB (G.pm k i))=true)
  have cV:∀d os,Calls Try.prog 82 #[.agg #[Value.int .i64 (G.pm k 0),Value.int .i64 (G.pm k 1),Value.int .i64 (G.pm k 2),Value.int .i64 (G.pm k 3)]] (grow (redrawn W d) os) fun e w''=>e=.returned (.bool true)∧∃p:Regrown,w''=grow (redrawn W p.d) p.os:=fun d os=>Calls.regrown_of (hv▸valid_walk (G.pm k) _)
  clear hv
  have HI:=Lib.hid hinv;clear hinv
  have HM:=Lib.hid hm;clear hm
  gi_wp2_with fail
  clear he
  have kx0:=cell_regrown x0
  have kx1:=cell_regrown x1
  have kx2:=cell_regrown x2
  have kx3:=cell_regrown x3
  have kx4:=cell_regrown x4
  have kz0:=cell_regrown z0
  have kz1:=cell_regrown z1
  have kv:=cell_regrown v0
  have kr:=cell_regrown r0
  have kf:∀d os,(grow (redrawn W d) os).frozen? ⟨b2,0,none⟩=false:=fun d os=>((below_regrown W d os).frozen (p:=⟨b2,0,none⟩) (World.block_lt_of_cell? W _ r0)).trans rf
  have kxf:=cell_regrown xf
  have kg0:=cell_regrown g0
  have kg1:=cell_regrown g1
  have kg2:=cell_regrown g2
  have kg3:=cell_regrown g3
  have kg4:=cell_regrown g4
  refine ze6 (fun w'=>∃p:Regrown,w'=grow (redrawn W p.d) p.os) (by kernel_rfl) (by kernel_rfl) (by kernel_rfl) ⟨⟨W.drawn+1,#[]⟩,by rw[grow_empty];rfl⟩ ?_
  repeat (go_big_quiet_step (first | exact cV _ _))
  refine wpQuiet_nil ?_
  rintro w' ⟨⟨d,os⟩,rfl⟩
  clear cV
  have hb1:=below_regrown W d os
  replace x0:=kx0 d os
  clear kx0
  replace x1:=kx1 d os
  clear kx1
  replace x2:=kx2 d os
  clear kx2
  replace x3:=kx3 d os
  clear kx3
  replace x4:=kx4 d os
  clear kx4
  replace z0:=kz0 d os
  clear kz0
  replace z1:=kz1 d os
  clear kz1
  replace r0:=kr d os
  clear kr
  replace rf:=kf d os
  clear kf
  replace v0:=kv d os
  clear kv
  replace xf:=kxf d os
  clear kxf
  replace g0:=kg0 d os
  clear kg0
  replace g1:=kg1 d os
  clear kg1
  replace g2:=kg2 d os
  clear kg2
  replace g3:=kg3 d os
  clear kg3
  replace g4:=kg4 d os
  clear kg4
  clear y0 y1 y2 y3 y4
  generalize grow (redrawn W d) os=W1 at *
  gi_wp2_with fail
  have kx0:=cell_regrown x0
  have kx1:=cell_regrown x1
  have kx2:=cell_regrown x2
  have kx3:=cell_regrown x3
  have kx4:=cell_regrown x4
  have kz0:=cell_regrown z0
  have kz1:=cell_regrown z1
  have kr0:=cell_regrown r0
  have kv0:=cell_regrown v0
  have kxf:=cell_regrown xf
  have kg0:=cell_regrown g0
  have kg1:=cell_regrown g1
  have kg2:=cell_regrown g2
  have kg3:=cell_regrown g3
  have kg4:=cell_regrown g4
  have kf:∀d os,(grow (redrawn W1 d) os).frozen? ⟨b2,0,none⟩=false:=fun d os=>((below_regrown W1 d os).frozen (p:=⟨b2,0,none⟩) (World.block_lt_of_cell? W1 _ r0)).trans rf
  have cI:∀d os,Calls Try.prog 97 #[.agg #[Value.int .i64 (G.pm k 0),Value.int .i64 (G.pm k 1),Value.int .i64 (G.pm k 2),Value.int .i64 (G.pm k 3)]] (grow (redrawn W1 d) os) fun e w''=>e=.returned (.agg #[Value.int .i64 (invF (G.pm k) 0),Value.int .i64 (invF (G.pm k) 1),Value.int .i64 (invF (G.pm k) 2),Value.int .i64 (invF (G.pm k) 3)])∧∃p:Regrown,w''=grow (redrawn W1 p.d) p.os:=fun d os=>Calls.regrown_of (inverse_walk (G.pm k) _ HI.out)
  have he2:=fun w=>zc5 (G.tet j) (t:Int) (G.pm j 0) (G.pm j 1) (G.pm j 2) (G.pm j 3) (invF (G.pm k) 0) (invF (G.pm k) 1) (invF (G.pm k) 2) (invF (G.pm k) 3) w
  simp only[HM.out] at he2
  refine ze6 (fun w'=>∃p:Regrown,w'=grow (redrawn W1 p.d) p.os) (by kernel_rfl) (by kernel_rfl) (by kernel_rfl) ⟨⟨W1.drawn+1,#[]⟩,by rw[grow_empty];rfl⟩ ?_
  repeat (go_big_quiet_step (first | exact cI _ _))
  refine wpQuiet_nil ?_
  rintro w' ⟨⟨d2,os2⟩,rfl⟩
  gi_wp2
  first
   | exact HN.out.1 (by simp) _ _ (hb1.trans ((below_regrown W1 d2 os2).mono hb1.size))
   | exact HN.out.2 (by simp) _ _ (hb1.trans ((below_regrown W1 d2 os2).mono hb1.size))
end
end
section
open Go.RowKit Go.Shelf Go.Sort
attribute [local go_sem] Oper.semAt_some
theorem zg2 {B:Nat}{W W':World}(h:Below W.heap.size W W'):KeepsFrom B W W':=
 ⟨h.size,fun k _o _ hk _=>(h.block k (Array.getElem?_eq_some_iff.1 hk).1).trans hk⟩
theorem zd1 {B:Nat}{W W':World}(h:KeepsFrom B W W')(a:Addr)(v:Value):KeepsFrom B W (W'.setCell a v):=h.trans ((KeepsOthers.setCell W' a v).from B)
theorem zf5 {W:World}{b j:Nat}{c:Array Value}{t:TypeId}(h:W.heap[b]?=some (.cells c t (0,0))){v:Value}(hv:c[j]?=some v):W.cell? ⟨b,j,none⟩=some v:=by rw[cell_of_row W b j c t (0,0) h,hv]
theorem frozen_blk {W:World}{b j:Nat}{c:Array Value}{t:TypeId}(h:W.heap[b]?=some (.cells c t (0,0))):W.frozen? ⟨b,j,none⟩=false:=frozen_of_row W b j c t h
theorem Check_small (G:Gl)(v:Value)(w:World)(hG:GlAt w.heap.size w v G)(hn:G.n≤1000) :
  CallsIn Fence.wide 6 Try.prog 57 #[.agg #[v]] w fun e w'=>e=.returned (.int .i64 (zd6 G))∧Below w.heap.size w w':=by
 have hG0:=Lib.hid hG
 obtain⟨a,b,off,cap,rfl,hga,hc⟩:=hG
 have HC:=Lib.hid hc;clear hc
 refine callsIn_of_wp_marks Try.func57 rfl trivial ?_ rfl
 simp only[Try.ntmps57,List.size_toArray,List.length_cons,List.length_nil,Nat.reduceAdd,Nat.reduceSub,Array.replicate_succ,Array.replicate_zero,List.push_toArray,List.append_toArray,List.nil_append,List.cons_append]
 gi_wp2_with (refine⟨trivial,?_⟩;gi_at_call 96;refine (callsIn_wide.2 (faces_walk _ _ _ _ rfl _)).mono ?_;rintro e w' ⟨rfl,rfl⟩)
 have hB0:Below w.heap.size w ((((w.alloc (.cells #[.slice a G.n cap] 24)).alloc (.cells #[.int .i64 0] 29)).alloc (.cells #[.int .i64 (-1),.int .i64 0,.int .i64 0,.int .i64 0,.int .i64 0] 87)).alloc (.cells #[.slice a G.n cap] 24)):=by (repeat' (first | assumption | exact Below.refl _ _ | refine za7 ?_ (by assumption) | refine zb2 ?_ _ | refine za5 ?_ | refine zb1 ?_ (by simp<;>omega) _))
 have hs0:((((w.alloc (.cells #[.slice a G.n cap] 24)).alloc (.cells #[.int .i64 0] 29)).alloc (.cells #[.int .i64 (-1),.int .i64 0,.int .i64 0,.int .i64 0,.int .i64 0] 87)).alloc (.cells #[.slice a G.n cap] 24)).heap.size=w.heap.size+4:=by simp
 have k1:((((w.alloc (.cells #[.slice a G.n cap] 24)).alloc (.cells #[.int .i64 0] 29)).alloc (.cells #[.int .i64 (-1),.int .i64 0,.int .i64 0,.int .i64 0,.int .i64 0] 87)).alloc (.cells #[.slice a G.n cap] 24)).heap[w.heap.size]?=some (.cells #[.slice a G.n cap] 24 (0,0)):=(Below.heap_alloc _ _ _ (by simp;omega)).trans ((Below.heap_alloc _ _ _ (by simp;omega)).trans ((Below.heap_alloc _ _ _ (by simp)).trans (heap_alloc_last w _)))
 have k2:((((w.alloc (.cells #[.slice a G.n cap] 24)).alloc (.cells #[.int .i64 0] 29)).alloc (.cells #[.int .i64 (-1),.int .i64 0,.int .i64 0,.int .i64 0,.int .i64 0] 87)).alloc (.cells #[.slice a G.n cap] 24)).heap[w.heap.size+1]?=some (.cells #[.int .i64 0] 29 (0,0)):=(Below.heap_alloc _ _ _ (by simp)).trans ((Below.heap_alloc _ _ _ (by simp)).trans (by have:=heap_alloc_last (w.alloc (.cells #[.slice a G.n cap] 24)) (.cells #[.int .i64 0] 29);rw[World.size_alloc] at this;exact this))
 have k3:((((w.alloc (.cells #[.slice a G.n cap] 24)).alloc (.cells #[.int .i64 0] 29)).alloc (.cells #[.int .i64 (-1),.int .i64 0,.int .i64 0,.int .i64 0,.int .i64 0] 87)).alloc (.cells #[.slice a G.n cap] 24)).heap[w.heap.size+1+1]?=some (.cells #[.int .i64 (-1),.int .i64 0,.int .i64 0,.int .i64 0,.int .i64 0] 87 (0,0)):=(Below.heap_alloc _ _ _ (by simp)).trans (by have:=heap_alloc_last ((w.alloc (.cells #[.slice a G.n cap] 24)).alloc (.cells #[.int .i64 0] 29)) (.cells #[.int .i64 (-1),.int .i64 0,.int .i64 0,.int .i64 0,.int .i64 0] 87);simp only[World.size_alloc] at this;exact this)
 have k4:((((w.alloc (.cells #[.slice a G.n cap] 24)).alloc (.cells #[.int .i64 0] 29)).alloc (.cells #[.int .i64 (-1),.int .i64 0,.int .i64 0,.int .i64 0,.int .i64 0] 87)).alloc (.cells #[.slice a G.n cap] 24)).cell? ⟨w.heap.size+1+1+1,0,none⟩=some (.slice a G.n cap):=by
  have:=heap_alloc_last (((w.alloc (.cells #[.slice a G.n cap] 24)).alloc (.cells #[.int .i64 0] 29)).alloc (.cells #[.int .i64 (-1),.int .i64 0,.int .i64 0,.int .i64 0,.int .i64 0] 87)) (.cells #[.slice a G.n cap] 24)
  simp only[World.size_alloc] at this
  rw[cell_of_row _ _ _ _ _ _ this];rfl
 generalize ((((w.alloc (.cells #[.slice a G.n cap] 24)).alloc (.cells #[.int .i64 0] 29)).alloc (.cells #[.int .i64 (-1),.int .i64 0,.int .i64 0,.int .i64 0,.int .i64 0] 87)).alloc (.cells #[.slice a G.n cap] 24))=W0 at *
 refine wpIn_rangeFunc_ownH rfl (by omega) (gf:=124) (lb:=#[.pointer (some ⟨w.heap.size+1+1+1,0,none⟩)]) rfl trivial (enters_of Try.func124 (by kernel_rfl) rfl)
  (faces_stops 5 (by omega) (w.heap.size+1+1+1) W0.heap.size G _ W0 (by omega) (by omega) (Nat.le_refl _) k4 ((hG0.out.below hB0).mono (by omega))) belowK_t (belowK_b (Nat.le_refl _)) (Below.refl _ _) (fun _=>rfl)
  (fun pre W=>(∀x∈pre,okB G x.val=true)∧Below W0.heap.size W0 W)
  (fun c pre W=>((c=.ret∧∃x∈pre,okB G x.val=false)∧W.heap[w.heap.size+1]?=some (.cells #[.int .i64 7] 29 (0,0)))∧Below w.heap.size w W)
  (OwnFrom.and (ownFrom_pure _ _) (ownFrom_below (Nat.le_refl _) (Nat.le_refl _)))
  (fun c=>OwnFrom.and (OwnFrom.and (ownFrom_pure _ _) (Own.from (blk_own _ _ _) _)) (ownFrom_below (Nat.le_refl _) (by omega)))
  ⟨by simp,Below.refl _ _⟩
  (fun x a' W=>∃b4 b5,W.heap[b4]?=some (.cells #[.int .i64 ((x.val / 4:Nat):Int),.int .i64 ((x.val % 4:Nat):Int)] 170 (0,0))∧W.heap[b5]?=some (.cells (faceA G x.val) 87 (0,0))∧a'={ tmps:=((Value.agg #[.slice a G.n cap]) :: (Value.pointer (some ⟨w.heap.size,0,none⟩)) :: (Value.pointer (some ⟨w.heap.size+1,0,none⟩)) :: (Value.pointer (some ⟨w.heap.size+1+1,0,none⟩)) :: (Value.pointer (some ⟨b4,0,none⟩)) :: (Value.pointer (some ⟨b5,0,none⟩)) :: (Value.pointer (some ⟨w.heap.size,0,none⟩)) :: (Value.slice a G.n cap) :: (Value.int .i64 G.n) :: (Value.bool (decide (1000<(G.n:Int)))) :: (Value.agg #[.int .i64 (-1),.int .i64 0,.int .i64 0,.int .i64 0,.int .i64 0]) :: (Value.agg #[.slice a G.n cap]) :: (Value.func (.func 124) #[] #[.pointer (some ⟨w.heap.size+1+1+1,0,none⟩)]) :: (Value.agg #[.int .i64 ((x.val / 4:Nat):Int),.int .i64 ((x.val % 4:Nat):Int)]) :: (Value.agg (faceA G x.val)) :: undef :: undef :: undef :: undef :: undef :: undef :: undef :: undef :: undef :: undef :: undef :: undef :: undef :: undef :: undef :: undef :: undef :: undef :: undef :: undef :: undef :: undef :: undef :: undef :: undef :: undef :: undef :: undef :: undef :: undef :: undef :: undef :: undef :: undef :: undef :: undef :: undef :: undef :: undef :: undef :: undef :: undef :: undef :: undef :: undef :: undef :: undef :: undef :: undef :: undef :: undef :: undef :: undef :: undef :: undef :: undef :: ([]:List Value)).toArray,defers:=[] })
  (fun x a' _ X Y row hs hg hr=>by
   obtain⟨b4,b5,e1,e2,e3⟩:=hs
   exact⟨b4,b5,blk_own (β:=Unit) b4 _ _ () X Y row e1 hg (fun r e=>(hr r e).2),blk_own (β:=Unit) b5 _ _ () X Y row e2 hg (fun r e=>(hr r e).2),e3⟩)
  ?assign ?body ?done ?stop
 case assign=>
  rintro l pre x W K ⟨hp,hB1⟩ hK
  unfold encF faceA at *
  generalize x.val / 4=t at *
  generalize x.val % 4=f at *
  have HK:=Lib.hid hK;clear hK
  gi_wp2
  have hw1:=heap_alloc_last (W.alloc (.cells #[.int .i64 (t:Int),.int .i64 (f:Int)] 170)) (.cells #[.int .i64 (G.tet x.val),.int .i64 (G.pm x.val 0),.int .i64 (G.pm x.val 1),.int .i64 (G.pm x.val 2),.int .i64 (G.pm x.val 3)] 87)
  rw[World.size_alloc] at hw1
  have hw0:=(Below.heap_alloc (W.alloc (.cells #[.int .i64 (t:Int),.int .i64 (f:Int)] 170)) (.cells #[.int .i64 (G.tet x.val),.int .i64 (G.pm x.val 0),.int .i64 (G.pm x.val 1),.int .i64 (G.pm x.val 2),.int .i64 (G.pm x.val 3)] 87) W.heap.size (by simp)).trans (heap_alloc_last W _)
  have hbW:Below W.heap.size W ((W.alloc (.cells #[.int .i64 (t:Int),.int .i64 (f:Int)] 170)).alloc (.cells #[.int .i64 (G.tet x.val),.int .i64 (G.pm x.val 0),.int .i64 (G.pm x.val 1),.int .i64 (G.pm x.val 2),.int .i64 (G.pm x.val 3)] 87)):=by (repeat' (first | assumption | exact Below.refl _ _ | refine za7 ?_ (by assumption) | refine zb2 ?_ _ | refine za5 ?_ | refine zb1 ?_ (by simp<;>omega) _))
  exact HK.out _ _ (zg2 hbW) (hbW.mono hB1.size) ⟨hp,za7 hB1 hbW⟩ ⟨_,_,hw0,hw1,rfl⟩
 case body=>
  rintro l pre x a' W hl ⟨r,hr⟩ ⟨hp,hB1⟩ ⟨b4,b5,q4,q5,rfl⟩ hlt
  have q1:=(hB1.block _ (by omega)).trans k1
  have q2:=(hB1.block _ (by omega)).trans k2
  have q3:=(hB1.block _ (by omega)).trans k3
  have hBw:Below w.heap.size w W:=hB0.trans (hB1.mono hB0.size)
  have hf4:x.val % 4<4:=Nat.mod_lt _ (by omega)
  have hN:okB G x.val=true→∀a' W',Below W.heap.size W W'→ownPostG W0.heap.size (Below W0.heap.size) (fun pre W=>(∀x∈pre,okB G x.val=true)∧Below W0.heap.size W0 W) (fun c pre W=>((c=.ret∧∃x∈pre,okB G x.val=false)∧W.heap[w.heap.size+1]?=some (.cells #[.int .i64 7] 29 (0,0)))∧Below w.heap.size w W) (pre++[x]) W .normal a' W':=fun hok a' W' hb=>
   ⟨zg2 hb,hb.mono hB1.size,fun y hy=>by
    rcases List.mem_append.1 hy with h | h
    ·exact hp y h
    ·simp at h;subst h;exact hok,hB1.trans (hb.mono hB1.size)⟩
  have hR:okB G x.val=false→∀a' W',Below W.heap.size W W'→ownPostG W0.heap.size (Below W0.heap.size) (fun pre W=>(∀x∈pre,okB G x.val=true)∧Below W0.heap.size W0 W) (fun c pre W=>((c=.ret∧∃x∈pre,okB G x.val=false)∧W.heap[w.heap.size+1]?=some (.cells #[.int .i64 7] 29 (0,0)))∧Below w.heap.size w W) (pre++[x]) W .ret a' (W'.setCell ⟨w.heap.size+1,0,none⟩ (.int .i64 7)):=fun hok a' W' hb=>
   ⟨zd1 (zg2 hb) _ _,⟨⟨rfl,x,by simp,hok⟩,Boxed.set _ (show Boxed W' (w.heap.size+1) 29 (.int .i64 0) from (hb.block _ (by have:=hB1.size;omega)).trans q2)⟩,zb1 (za7 hBw hb) (by simp) _⟩
  have x0:=zf5 (j:=0) q5 rfl
  have x1:=zf5 (j:=1) q5 rfl
  have x2:=zf5 (j:=2) q5 rfl
  have x3:=zf5 (j:=3) q5 rfl
  have x4:=zf5 (j:=4) q5 rfl
  have y0:=zf5 (j:=0) q3 rfl
  have y1:=zf5 (j:=1) q3 rfl
  have y2:=zf5 (j:=2) q3 rfl
  have y3:=zf5 (j:=3) q3 rfl
  have y4:=zf5 (j:=4) q3 rfl
  have z0:=zf5 (j:=0) q4 rfl
  have z1:=zf5 (j:=1) q4 rfl
  have r0:=zf5 (j:=0) q2 rfl
  have rf:=frozen_blk (j:=0) q2
  have v0:=zf5 (j:=0) q1 rfl
  have e57:∀c:Code,bodyOf Try.f57=c→bodyOf Try.f57=c:=fun _ h=>h
  by_cases hno:noneB G x.val=true
  ·exact check_body_none hno (hN (by simp[okB,hno])) x0 x1 x2 x3 x4 y0 y1 y2 y3 y4
  ·have hno':noneB G x.val=false:=by simpa using hno
   by_cases h0:0≤G.tet x.val
   ·by_cases h1:G.tet x.val<(G.n:Int)
    ·by_cases hv:zc9 (G.pm x.val)=true
     ·by_cases hsf:selfB G x.val=true
      ·have hs2:=hsf
       simp only[selfB,Bool.and_eq_true] at hs2
       exact check_body_self hno' hf4 h0 h1 hv hs2.1 hs2.2 (hR (by simp[okB,hno',hsf])) x0 x1 x2 x3 x4 y0 y1 y2 y3 y4 z0 z1 r0 rf v0
      ·have hsf:selfB G x.val=false:=by simpa using hsf
       have hin:=zf2.1 (all4_iff.1 (by simp only[zc9,Bool.and_eq_true] at hv;exact hv.1:all4 (fun i=>inB (G.pm x.val i))=true) (x.val % 4) hf4)
       have hy:0≤G.pm x.val (x.val % 4)∧G.pm x.val (x.val % 4)<4:=by omega
       obtain⟨rfl,hb⟩:=hga (by have:=x.isLt;omega)
       have hj:G.back x.val<4*G.n:=by unfold Gl.back;omega
       have hcj:=HC.out (G.back x.val) hj
       have ea:off+5*G.back x.val=off+(G.tet x.val).toNat*20+(G.pm x.val (x.val % 4)).toNat*5:=by unfold Gl.back;omega
       rw[ea] at hcj
       have g0:=(hBw.cell (p:=⟨b,_,none⟩) hb).trans hcj.1
       have g1:=(hBw.cell (p:=⟨b,_,none⟩) hb).trans (hcj.2 0 (by omega))
       have g2:=(hBw.cell (p:=⟨b,_,none⟩) hb).trans (hcj.2 1 (by omega))
       have g3:=(hBw.cell (p:=⟨b,_,none⟩) hb).trans (hcj.2 2 (by omega))
       have g4:=(hBw.cell (p:=⟨b,_,none⟩) hb).trans (hcj.2 3 (by omega))
       have xf:W.cell? ⟨b5,1+x.val % 4,none⟩=some (.int .i64 (G.pm x.val (x.val % 4))):=by
        have h4:x.val % 4=0∨x.val % 4=1∨x.val % 4=2∨x.val % 4=3:=by omega
        rcases h4 with h | h | h | h<;>rw[h]
        ·exact x1
        ·exact x2
        ·exact x3
        ·exact x4
       have hnn:(G.tet x.val==-1 && (G.pm x.val 0==0 && (G.pm x.val 1==0 && (G.pm x.val 2==0 && G.pm x.val 3==0))))=false:=by simpa [noneB,all4,Bool.and_assoc] using hno'
       have hme:(G.tet (G.back x.val)==((x.val / 4:Nat):Int) && (G.pm (G.back x.val) 0==invF (G.pm x.val) 0 && (G.pm (G.back x.val) 1==invF (G.pm x.val) 1 && (G.pm (G.back x.val) 2==invF (G.pm x.val) 2 && G.pm (G.back x.val) 3==invF (G.pm x.val) 3))))=matchB G x.val:=by
        simp only[matchB,all4,Bool.and_assoc];rfl
       by_cases hm:matchB G x.val=true
       ·have hmm:=hme.trans hm
        by_cases e1:(G.tet x.val==((x.val / 4:Nat):Int))=true
        ·have e2:(G.pm x.val (x.val % 4)==((x.val % 4:Nat):Int))=false:=by simp only[selfB,e1,Bool.true_and] at hsf;exact hsf
         exact check_body_pair (G.back x.val) hf4 h0 h1 hy.1 hy.2 hn hnn hv _ _ e1 (fun _=>e2) hmm (fun _=>hN (by have hv':zc9 (G.p x.val)=true:=hv;simp[okB,hno',inTetB,h0,h1,hv',hsf,hm])) (fun h=>by cases h) x0 x1 x2 x3 x4 y0 y1 y2 y3 y4 z0 z1 r0 rf v0 xf g0 g1 g2 g3 g4
        ·have e1:(G.tet x.val==((x.val / 4:Nat):Int))=false:=by simpa using e1
         exact check_body_pair (G.back x.val) hf4 h0 h1 hy.1 hy.2 hn hnn hv _ _ e1 (fun h=>by cases h) hmm (fun _=>hN (by have hv':zc9 (G.p x.val)=true:=hv;simp[okB,hno',inTetB,h0,h1,hv',hsf,hm])) (fun h=>by cases h) x0 x1 x2 x3 x4 y0 y1 y2 y3 y4 z0 z1 r0 rf v0 xf g0 g1 g2 g3 g4
       ·have hm:matchB G x.val=false:=by simpa using hm
        have hmm:=hme.trans hm
        by_cases e1:(G.tet x.val==((x.val / 4:Nat):Int))=true
        ·have e2:(G.pm x.val (x.val % 4)==((x.val % 4:Nat):Int))=false:=by simp only[selfB,e1,Bool.true_and] at hsf;exact hsf
         exact check_body_pair (G.back x.val) hf4 h0 h1 hy.1 hy.2 hn hnn hv _ _ e1 (fun _=>e2) hmm (fun h=>by cases h) (fun _=>hR (by have hv':zc9 (G.p x.val)=true:=hv;simp[okB,hno',inTetB,h0,h1,hv',hsf,hm])) x0 x1 x2 x3 x4 y0 y1 y2 y3 y4 z0 z1 r0 rf v0 xf g0 g1 g2 g3 g4
        ·have e1:(G.tet x.val==((x.val / 4:Nat):Int))=false:=by simpa using e1
         exact check_body_pair (G.back x.val) hf4 h0 h1 hy.1 hy.2 hn hnn hv _ _ e1 (fun h=>by cases h) hmm (fun h=>by cases h) (fun _=>hR (by have hv':zc9 (G.p x.val)=true:=hv;simp[okB,hno',inTetB,h0,h1,hv',hsf,hm])) x0 x1 x2 x3 x4 y0 y1 y2 y3 y4 z0 z1 r0 rf v0 xf g0 g1 g2 g3 g4
     ·have hv:zc9 (G.pm x.val)=false:=by simpa using hv
      exact check_body_inval hno' h0 h1 hv (hR (by have:zc9 (G.p x.val)=false:=hv;simp[okB,hno',this])) x0 x1 x2 x3 x4 y0 y1 y2 y3 y4 z0 z1 r0 rf v0
    ·exact check_body_big hno' h0 (by omega) (hR (by simp[okB,hno',inTetB,h1])) x0 x1 x2 x3 x4 y0 y1 y2 y3 y4 z0 z1 r0 rf v0
   ·exact check_body_neg hno' (by omega) (hR (by simp[okB,hno',inTetB,h0])) x0 x1 x2 x3 x4 y0 y1 y2 y3 y4 z0 z1 r0 rf v0
 case done=>
  rintro D xs W hD hS ⟨hp,hB1⟩ hK
  have q2:=(hB1.block _ (by omega)).trans k2
  have r0:=zf5 (j:=0) q2 rfl
  have rf:=frozen_blk (j:=0) q2
  have hBw:Below w.heap.size w W:=hB0.trans (hB1.mono hB0.size)
  have hck:zd6 G=0:=by
   have:za9 G=true:=by
    simp only[za9,Bool.and_eq_true,decide_eq_true_eq,List.all_eq_true]
    refine⟨hn,fun y hy=>?_⟩
    rw[←hS] at hy
    obtain⟨z,hz,rfl⟩:=List.mem_map.1 hy
    exact hp z hz
   simp[zd6,this]
  gi_wp2
  have hK':=(KeepsOthers.setCell W ⟨w.heap.size+1,0,none⟩ (.int .i64 0)).same D _ hK rfl
  refine⟨by simp,.inl ⟨_,_,rfl,run_takeDeferred hK',?_⟩⟩
  have hc5:=cell_kept (Boxed.set (Value.int .i64 0) (show Boxed W (w.heap.size+1) 29 (.int .i64 0) from q2)).cell (grownBy_putObj' _ D (.deferred none)) (fun r e=>by cases e;exact⟨_,hK',rfl⟩)
  refine⟨.int .i64 0,?_,by rw[hck],(hBw.setCell (p:=⟨w.heap.size+1,0,none⟩) (by simp) _).trans (belowK_b (w:=w) (Nat.le_refl _) _ D _ _ (by omega) hK' rfl rfl)⟩
  simp[results,Try.f57,go_sem,hc5]
 case stop=>
  rintro D c pre W hD ⟨k,hk,hpre⟩ ⟨⟨⟨rfl,x,hx,hx2⟩,q2⟩,hBw⟩ hK
  have hck:zd6 G=7:=by
   have:za9 G=false:=by
    rw[←Bool.not_eq_true]
    intro h
    simp only[za9,Bool.and_eq_true,decide_eq_true_eq,List.all_eq_true] at h
    have:=h.2 x.val (List.mem_range.2 x.isLt)
    rw[this] at hx2
    cases hx2
   simp[zd6,this]
  gi_wp2
  refine⟨by simp,.inl ⟨_,_,rfl,run_takeDeferred hK,?_⟩⟩
  have hc5:=cell_kept (Boxed.cell (show Boxed W (w.heap.size+1) 29 (.int .i64 7) from q2)) (grownBy_putObj' _ D (.deferred none)) (fun r e=>by cases e;exact⟨_,hK,rfl⟩)
  refine⟨.int .i64 7,?_,by rw[hck],hBw.trans (belowK_b (w:=w) (Nat.le_refl _) W D _ _ (by omega) hK rfl rfl)⟩
  simp[results,Try.f57,go_sem,hc5]
theorem Check_walk (G:Gl)(v:Value)(w:World)(hG:GlAt w.heap.size w v G)(hm:G.n≤9223372036854775807) :
  Calls Try.prog 57 #[.agg #[v]] w fun e w'=>e=.returned (.int .i64 (zd6 G))∧Below w.heap.size w w':=by
 by_cases hn:G.n≤1000
 ·exact callsIn_wide.1 (Check_small G v w hG hn)
 ·have:zd6 G=7:=by simp[zd6,za9,hn]
  rw[this]
  exact Check_large G v w hG (by omega) hm
end
section
open Go.RowKit
def AbidesOk {β:Type}(Ok:World→Nat→Prop)(Al:Nat→Prop)(B:Nat)(J:β→World→Prop):Prop:=
 ∀s W W' row,J s W→W.grownBy W' row→(∀r,row=some r→(B≤r∨Al r)∧Ok W r)→J s W'
def SeqLim {α:Type}(n:Nat)(P:Program)(g:Nat)(lb:Array Value)(encs:α→Array Value)(Ok:World→Nat→Prop)(Al:Nat→Prop)(Kp:World→World→Prop)(lim S Sp:List α→Prop)(Nb:Nat)(w:World):Prop:=
 ∀(l:Nat) (J Jx:List α→World→Prop) (W:World),Below w.heap.size w W→AbidesOk Ok Al W.heap.size J→AbidesOk Ok Al W.heap.size Jx→(∀pre W,J pre W→lim pre) →
  (∀pre x W1,J pre W1→pre.length≤Nb→YieldAt Fence.wide (n-1) P l (encs x) W1 fun e W'=>
   (e=.returned (.bool true)∧J (pre++[x]) W'∧Kp W1 W')∨(e=.returned (.bool false)∧Jx (pre++[x]) W')) →
  J [] W →
  CallsIn Fence.wide n P g (#[.func (.yield l) #[] #[]]++lb) W fun e W'=>(∃v,e=.returned v)∧((∃xs,S xs∧J xs W')∨(∃pre,Sp pre∧Jx pre W'))
theorem zg4 {α:Type}{P:Program}{n:Nat}{g:Operand}{ps:Array Tmp}{assign body:Code}{Q:Exit→Act→World→Prop}{a:Act}{w:World}(h1:1≤n){gf:Nat}{lb:Array Value}
  (hg:a.eval g=.func (.func gf) #[] lb) (eg:∀args w,(callFunc gf args).run P w=.ok (.enter gf args) w)
  {encs:α→Array Value} {Ok:World→Nat→Prop} {Al:Nat→Prop} {Kp:World→World→Prop} {lim S Sp:List α→Prop} {Nb:Nat} {w0:World} (hseq:SeqLim (n-1) P gf lb encs Ok Al Kp lim S Sp Nb w0) (hAl:∀r,Al r→r<w.heap.size) (hKt:∀{A B C:World},Kp A B→Kp B C→Kp A C) (hKb:∀(W:World) (l:Nat) (r r':Loop),w.heap.size≤l→W.heap[l]?=some (.loop r)→Kp W (W.putObj l (.loop r'))) (hb0:Below w0.heap.size w0 w) (hps:∀x,(encs x).size=ps.size)
  (I:List α→World→Prop) (Ix:List α→World→Prop) (hlim:∀pre W,I pre W→lim pre) (hI:OwnFrom w.heap.size I) (hIx:OwnFrom w.heap.size Ix) (hIo:AbidesOk Ok Al w.heap.size I) (hIxo:AbidesOk Ok Al w.heap.size Ix) (h0:I [] w) (Ax:α→Act→World→Prop) (hAx:∀x a',OwnFrom w.heap.size (fun (_:Unit) W=>Ax x a' W))
  (hassign:∀(l:Nat) (pre:List α) (x:α) (W:World) (K:Act→World→Prop),I pre W→(∀a' W',KeepsFrom w.heap.size W W'→Kp W W'→I pre W'→Ax x a' W'→K a' W') →
   assign.wpIn (Fence.wide.inRound l) (n-1-1) P (Exit.then K (fun _ _ _=>False)) { tmps:=(ps.zip (encs x)).foldl (fun t (p,v)=>t.setIfInBounds p v) a.tmps,defers:=[] } W)
  (hbody:∀(l:Nat) (pre:List α) (x:α) (a':Act) (W:World),w.heap.size≤l→I pre W→Ax x a' W→pre.length≤Nb→body.wpIn (Fence.wide.inRound l) (n-1-1) P
   (fun e _ W'=>(e=.normal∧KeepsFrom w.heap.size W W'∧Kp W W'∧I (pre++[x]) W')∨(e=.ret∧KeepsFrom w.heap.size W W'∧Ix (pre++[x]) W')) a' W)
  (hdone:∀(D:Nat) (xs:List α) (W:World),w.heap.size≤D→S xs→I xs W→W.heap[D]?=some (.deferred (some []))→Q .normal { a with defers:={ target:=.collected D,args:=#[] } :: a.defers } W)
  (hstop:∀(D:Nat) (pre:List α) (W:World),w.heap.size≤D→Sp pre→Ix pre W→W.heap[D]?=some (.deferred (some []))→Code.ret.wpIn Fence.wide n P Q { a with defers:={ target:=.collected D,args:=#[] } :: a.defers } W) :
  (Code.rangeFunc g ps assign body).wpIn Fence.wide n P Q a w:=by
 refine wpIn_rangeFunc fun fn hfn=>?_
 let D:=w.heap.size
 let rc:LoopState→Option Code→Loop:=fun st pe=>{ state:=st,pending:=pe,fn,tmps:=a.tmps,params:=ps,assign,body,defers:=D }
 let W1:=(w.alloc (.deferred (some []))).alloc (.loop (rc .ready none))
 have eL:W1.heap[D+1]?=some (.loop (rc .ready none)):=by
  have:=World.alloc_heap_new (w.alloc (.deferred (some []))) (.loop (rc .ready none))
  rwa [World.size_alloc] at this
 have eD:W1.heap[D]?=some (.deferred (some [])):=(Below.heap_alloc _ _ _ (by simp[D])).trans (World.alloc_heap_new w _)
 have sW:W1.heap.size=D+2:=by simp[W1,D]
 have bW:Below w0.heap.size w0 W1:=hb0.trans ((((Below.refl _ w).alloc (Nat.le_refl _) _).alloc (by simp) _).mono hb0.size)
 have far:∀{A B:World} {row:Option Nat},A.grownBy B row→(∀r,row=some r→(W1.heap.size≤r∨Al r)∧Ok A r)→∀k o,D≤k→k<W1.heap.size→A.heap[k]?=some o→B.heap[k]?=some o:=fun hg hr k o hD hk ho=>
  (hg.block k (Array.getElem?_eq_some_iff.1 ho).1 (fun e=>by
   rcases (hr k e.symm).1 with h | h
   ·omega
   ·have:=hAl k h;have:D=w.heap.size:=rfl;omega)).trans ho
 refine⟨D+1,[{ target:=.collected D,args:=#[] }],W1,{ target:=.fn (.func gf) lb,args:=#[.func (.yield (D+1)) #[] #[]] },W1,gf,#[.func (.yield (D+1)) #[] #[]]++lb,W1,
  run_enterLoop_outer _ _ _ _ _,?_,fun f' _=>trivial,?_,fun _=>h1,?_⟩
 ·simp only[resolve,hg];simp[go_sem]
 ·simp[invoke,go_sem,eg]
 refine (hseq (D+1) (fun pre W=>I pre W∧W.heap[D+1]?=some (.loop (rc .ready none))∧W.heap[D]?=some (.deferred (some [])))
  (fun pre W=>Ix pre W∧W.heap[D+1]?=some (.loop (rc .done (some .ret)))∧W.heap[D]?=some (.deferred (some []))) W1 bW ?_ ?_ (fun pre W h=>hlim pre W h.1) ?_ ⟨hI.alloc _ (hI.alloc _ h0),eL,eD⟩).mono ?_
 ·intro s A B row hs hg' hr
  exact⟨hIo s A B row hs.1 hg' (fun r e=>⟨(hr r e).1.imp (fun h=>by show D≤r;omega) id,(hr r e).2⟩),far hg' hr _ _ (by omega) (by omega) hs.2.1,far hg' hr _ _ (by omega) (by omega) hs.2.2⟩
 ·intro s A B row hs hg' hr
  exact⟨hIxo s A B row hs.1 hg' (fun r e=>⟨(hr r e).1.imp (fun h=>by show D≤r;omega) id,(hr r e).2⟩),far hg' hr _ _ (by omega) (by omega) hs.2.1,far hg' hr _ _ (by omega) (by omega) hs.2.2⟩
 ·intro pre x W hJ hNb
  obtain⟨hi,hl,hk⟩:=hJ
  refine⟨fn,_,assign,body,run_yield (P:=P) (args:=encs x) hl (hps x),roundIn_of_wpIn hfn (hassign _ pre x W _ hi fun a' V kV bV iV aV=>?_)⟩
  have lV:=kV.same _ _ (by show D≤D+1;omega) hl rfl
  have dV:=kV.same _ _ (Nat.le_refl _) hk rfl
  have sV:D+1<V.heap.size:=(Array.getElem?_eq_some_iff.1 lV).1
  refine⟨_,run_beginRound lV rfl,?_⟩
  have lU:(V.putObj (D+1) (.loop { rc .ready none with state:=.busy })).heap[D+1]?=some (.loop { rc .ready none with state:=.busy }):=World.putObj_heap_same sV
  have dU:(V.putObj (D+1) (.loop { rc .ready none with state:=.busy })).heap[D]?=some (.deferred (some [])):=(World.putObj_heap_other (by omega)).trans dV
  have bU:Kp V (V.putObj (D+1) (.loop { rc .ready none with state:=.busy })):=hKb _ _ _ _ (by show D≤D+1;omega) lV
  have last:∀(j:Option Code) (X:World),KeepsFrom D (V.putObj (D+1) (.loop { rc .ready none with state:=.busy })) X →
    (Instr.endRound (D+1) j).run P X=.ok (.bool j.isNone) (X.putObj (D+1) (.loop (rc (if j.isNone then .ready else .done) j)))∧X.heap[D+1]?=some (.loop { rc .ready none with state:=.busy }) ∧
    (X.putObj (D+1) (.loop (rc (if j.isNone then .ready else .done) j))).heap[D+1]?=some (.loop (rc (if j.isNone then .ready else .done) j)) ∧
    (X.putObj (D+1) (.loop (rc (if j.isNone then .ready else .done) j))).heap[D]?=some (.deferred (some [])):=fun j X kX=>by
   have lX:=kX.same _ _ (by omega) lU rfl
   exact⟨run_endRound (P:=P) j lX,lX,World.putObj_heap_same (Array.getElem?_eq_some_iff.1 lX).1,(World.putObj_heap_other (by omega)).trans (kX.same _ _ (Nat.le_refl _) dU rfl)⟩
  refine wpIn_mono (hbody _ pre x a' _ (by show D≤D+1;omega) (hI.putObj _ iV (by show D≤D+1;omega) lV rfl) ((hAx x a').putObj (s:=()) _ aV (by show D≤D+1;omega) lV rfl) hNb) ?_
  rintro e a3 X (⟨rfl,kX,bX,iX⟩ | ⟨rfl,kX,iX⟩)
  ·obtain⟨r1,r2,r3,r4⟩:=last none X kX
   exact⟨_,_,r1,.inl ⟨rfl,⟨hI.putObj _ iX (by show D≤D+1;omega) r2 rfl,r3,r4⟩,hKt bV (hKt bU (hKt bX (hKb _ _ _ _ (by show D≤D+1;omega) r2)))⟩⟩
  ·obtain⟨r1,r2,r3,r4⟩:=last (some .ret) X kX
   exact⟨_,_,r1,.inr ⟨rfl,hIx.putObj _ iX (by show D≤D+1;omega) r2 rfl,r3,r4⟩⟩
 ·rintro e X ⟨⟨v,rfl⟩,(⟨xs,hS,hi,hl,hk⟩ | ⟨pre,hSp,hi,hl,hk⟩)⟩
  ·exact⟨none,_,run_endLoop (P:=P) hl (by simp[rc]),hdone _ xs _ (Nat.le_refl _) hS (hI.putObj _ hi (by show D≤D+1;omega) hl rfl) ((World.putObj_heap_other (by omega)).trans hk)⟩
  ·exact⟨some .ret,_,run_endLoop (P:=P) hl (by simp[rc]),hstop _ pre _ (Nat.le_refl _) hSp (hIx.putObj _ hi (by show D≤D+1;omega) hl rfl) ((World.putObj_heap_other (by omega)).trans hk)⟩
end
end Go.Proofs.Ytlckpgahijlmoaa
