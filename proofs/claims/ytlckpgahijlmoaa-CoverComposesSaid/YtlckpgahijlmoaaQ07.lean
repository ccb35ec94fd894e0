/- glue.Check: the body of its loop where the face behind is looked at. -/
import Derived.Test.YtlckpgahijlmoaaQ05
import Derived.Test.YtlckpgahijlmoaaQ06
import Derived.Lib.QuietBelow
/- glue.Check: what it returns, for every gluing. -/
namespace Go.Proofs.Ytlckpgahijlmoaa
open Go.RowKit Go.Shelf Go.Sort
attribute [local go_sem] Oper.semAt_some

/-- the face k as a permutation -/
def Gl.p (G : Gl) (k : Nat) : Nat → Int := fun i => G.pm k i
def noneB (G : Gl) (k : Nat) : Bool := G.tet k == -1 && all4 (fun i => G.pm k i == 0)
/-- the number of the face behind the face k (where it is one) -/
def Gl.back (G : Gl) (k : Nat) : Nat := 4 * (G.tet k).toNat + (G.pm k (k % 4)).toNat
def selfB (G : Gl) (k : Nat) : Bool := G.tet k == ((k / 4 : Nat) : Int) && G.pm k (k % 4) == ((k % 4 : Nat) : Int)
def inTetB (G : Gl) (k : Nat) : Bool := decide (0 ≤ G.tet k) && decide (G.tet k < (G.n : Int))
def matchB (G : Gl) (k : Nat) : Bool := G.tet (G.back k) == ((k / 4 : Nat) : Int) && all4 (fun i => G.pm (G.back k) i == invF (G.p k) i)
def okB (G : Gl) (k : Nat) : Bool := noneB G k || (inTetB G k && validF (G.p k) && !selfB G k && matchB G k)
def checkB (G : Gl) : Bool := decide (G.n ≤ 1000) && (List.range (4 * G.n)).all (okB G)
def checkI (G : Gl) : Int := if checkB G then 0 else 7

/-- a block, whole -/
theorem blk_own {β : Type} (B : Nat) (c : Array Value) (t : TypeId) : Own (fun (_ : β) W => W.heap[B]? = some (.cells c t (0, 0))) := fun s X Y row hs hg hrow =>
  (hg.block B (Array.getElem?_eq_some_iff.1 hs).1 (fun e' => by obtain ⟨o, ho, hc⟩ := hrow B e'.symm; rw [hs] at ho; cases ho; cases hc)).trans hs

set_option maxRecDepth 100000 in
set_option maxHeartbeats 1000000 in
theorem Check_large (G : Gl) (v : Value) (w : World) (hG : GlAt w.heap.size w v G) (hn : 1000 < G.n) (hm : G.n ≤ 9223372036854775807) :
    Calls Try.prog 57 #[.agg #[v]] w fun e w' => e = .returned (.int .i64 7) ∧ Below w.heap.size w w' := by
  obtain ⟨a, b, off, cap, rfl, _, _⟩ := hG
  go_enter Try.func57, Try.ntmps57
  go_wp2
  exact bodyPost_ret (v := .int .i64 7) (by simp [results, Try.results57, go_sem]) rfl ⟨rfl, by (repeat' (first | assumption | exact Below.refl _ _ | refine below_then ?_ (by assumption) | refine below_al ?_ _ | refine below_dr ?_ | refine below_sc ?_ (by simp <;> omega) _))⟩


/-- the first range over a function in a text: its body -/
def rfBody : Code → Option Code
  | .seq a b => match rfBody a with | some c => some c | none => rfBody b
  | .block _ b => rfBody b
  | .loop b => rfBody b
  | .scope b => rfBody b
  | .cond _ t e => match rfBody t with | some c => some c | none => rfBody e
  | .rangeFunc _ _ _ b => some b
  | _ => none
def bodyOf (f : Func) : Code := match f.body with | some c => (rfBody c).getD .skip | none => .skip

section
variable {l m : Nat} {G : Gl} {k t f b1 b2 b3 b4 b5 : Nat} {a : Option Addr} {b off cap : Nat} {W : World} {Q : Exit → Act → World → Prop} {s0 s6 s7 s8 s9 s10 s11 s12 s13 s14 s15 s16 s17 s18 s19 s20 s21 s22 s23 s24 s25 s26 s27 s28 s29 s30 s31 s32 s33 s34 s35 s36 s37 s38 s39 s40 s41 s42 s43 s44 s45 s46 s47 s48 s49 s50 s51 s52 s53 s54 s55 s56 s57 s58 s59 s60 s61 s62 s63 s64 s65 s66 s67 s68 s69 s70 : Value}
set_option maxRecDepth 100000 in
set_option maxHeartbeats 4000000 in
theorem check_body_none (hno : noneB G k = true) (hN : ∀ a' W', Below W.heap.size W W' → Q .normal a' W') (x0 : W.cell? ⟨b5, 0, none⟩ = some (.int .i64 (G.tet k))) (x1 : W.cell? ⟨b5, 1, none⟩ = some (.int .i64 (G.pm k 0))) (x2 : W.cell? ⟨b5, 2, none⟩ = some (.int .i64 (G.pm k 1))) (x3 : W.cell? ⟨b5, 3, none⟩ = some (.int .i64 (G.pm k 2))) (x4 : W.cell? ⟨b5, 4, none⟩ = some (.int .i64 (G.pm k 3))) (y0 : W.cell? ⟨b3, 0, none⟩ = some (.int .i64 (-1))) (y1 : W.cell? ⟨b3, 1, none⟩ = some (.int .i64 (0))) (y2 : W.cell? ⟨b3, 2, none⟩ = some (.int .i64 (0))) (y3 : W.cell? ⟨b3, 3, none⟩ = some (.int .i64 (0))) (y4 : W.cell? ⟨b3, 4, none⟩ = some (.int .i64 (0))) : (bodyOf Try.f57).wpIn (Fence.wide.inRound l) m Try.prog Q { tmps := #[s0, .pointer (some ⟨b1, 0, none⟩), .pointer (some ⟨b2, 0, none⟩), .pointer (some ⟨b3, 0, none⟩), .pointer (some ⟨b4, 0, none⟩), .pointer (some ⟨b5, 0, none⟩), s6, s7, s8, s9, s10, s11, s12, s13, s14, s15, s16, s17, s18, s19, s20, s21, s22, s23, s24, s25, s26, s27, s28, s29, s30, s31, s32, s33, s34, s35, s36, s37, s38, s39, s40, s41, s42, s43, s44, s45, s46, s47, s48, s49, s50, s51, s52, s53, s54, s55, s56, s57, s58, s59, s60, s61, s62, s63, s64, s65, s66, s67, s68, s69, s70], defers := [] } W := by
  simp only [bodyOf, rfBody, Try.f57, Option.getD_some]
  have HN := Lib.hid hN; clear hN
  have he := run_equal_P4'
  simp only [noneB, all4, Bool.and_eq_true, beq_iff_eq] at hno
  obtain ⟨e0, ⟨⟨e1, e2⟩, e3⟩, e4⟩ := hno
  gi_wp2
  exact HN.out _ _ (Below.refl _ _)
set_option maxRecDepth 100000 in
set_option maxHeartbeats 4000000 in
theorem check_body_neg (hno : noneB G k = false) (hneg : G.tet k < 0) (hR : ∀ a' W', Below W.heap.size W W' → Q .ret a' (W'.setCell ⟨b2, 0, none⟩ (.int .i64 7))) (x0 : W.cell? ⟨b5, 0, none⟩ = some (.int .i64 (G.tet k))) (x1 : W.cell? ⟨b5, 1, none⟩ = some (.int .i64 (G.pm k 0))) (x2 : W.cell? ⟨b5, 2, none⟩ = some (.int .i64 (G.pm k 1))) (x3 : W.cell? ⟨b5, 3, none⟩ = some (.int .i64 (G.pm k 2))) (x4 : W.cell? ⟨b5, 4, none⟩ = some (.int .i64 (G.pm k 3))) (y0 : W.cell? ⟨b3, 0, none⟩ = some (.int .i64 (-1))) (y1 : W.cell? ⟨b3, 1, none⟩ = some (.int .i64 (0))) (y2 : W.cell? ⟨b3, 2, none⟩ = some (.int .i64 (0))) (y3 : W.cell? ⟨b3, 3, none⟩ = some (.int .i64 (0))) (y4 : W.cell? ⟨b3, 4, none⟩ = some (.int .i64 (0))) (z0 : W.cell? ⟨b4, 0, none⟩ = some (.int .i64 (t : Int))) (z1 : W.cell? ⟨b4, 1, none⟩ = some (.int .i64 (f : Int))) (r0 : W.cell? ⟨b2, 0, none⟩ = some (.int .i64 0)) (rf : W.frozen? ⟨b2, 0, none⟩ = false) (v0 : W.cell? ⟨b1, 0, none⟩ = some (.slice a G.n cap)) : (bodyOf Try.f57).wpIn (Fence.wide.inRound l) m Try.prog Q { tmps := #[s0, .pointer (some ⟨b1, 0, none⟩), .pointer (some ⟨b2, 0, none⟩), .pointer (some ⟨b3, 0, none⟩), .pointer (some ⟨b4, 0, none⟩), .pointer (some ⟨b5, 0, none⟩), s6, s7, s8, s9, s10, s11, s12, s13, s14, s15, s16, s17, s18, s19, s20, s21, s22, s23, s24, s25, s26, s27, s28, s29, s30, s31, s32, s33, s34, s35, s36, s37, s38, s39, s40, s41, s42, s43, s44, s45, s46, s47, s48, s49, s50, s51, s52, s53, s54, s55, s56, s57, s58, s59, s60, s61, s62, s63, s64, s65, s66, s67, s68, s69, s70], defers := [] } W := by
  simp only [bodyOf, rfBody, Try.f57, Option.getD_some]
  have HR := Lib.hid hR; clear hR
  have he := fun w => run_equal_face (G.tet k) (-1) (G.pm k 0) (G.pm k 1) (G.pm k 2) (G.pm k 3) 0 0 0 0 w
  have hno' : (G.tet k == -1 && (G.pm k 0 == 0 && (G.pm k 1 == 0 && (G.pm k 2 == 0 && G.pm k 3 == 0)))) = false := by simpa [noneB, all4, Bool.and_assoc] using hno
  simp only [hno'] at he
  clear hno hno'
  gi_wp2_with fail
  clear he
  have kx0 := cell_regrown x0
  have kx1 := cell_regrown x1
  have kx2 := cell_regrown x2
  have kx3 := cell_regrown x3
  have kx4 := cell_regrown x4
  have kz0 := cell_regrown z0
  have kz1 := cell_regrown z1
  have kv := cell_regrown v0
  have kr := cell_regrown r0
  have kf : ∀ d os, (grow (redrawn W d) os).frozen? ⟨b2, 0, none⟩ = false := fun d os => ((below_regrown W d os).frozen (p := ⟨b2, 0, none⟩) (World.block_lt_of_cell? W _ r0)).trans rf
  refine wpIn_quiet_round (fun w' => ∃ p : Regrown, w' = grow (redrawn W p.d) p.os) (by kernel_rfl) (by kernel_rfl) (by kernel_rfl) ⟨⟨W.drawn + 1, #[]⟩, by rw [grow_empty]; rfl⟩ ?_
  repeat (go_big_quiet_step (first | exact cV _ _))
  refine wpQuiet_nil ?_
  rintro w' ⟨⟨d, os⟩, rfl⟩
  gi_wp2
  exact HR.out _ _ (below_regrown W d os)
set_option maxRecDepth 100000 in
set_option maxHeartbeats 4000000 in
theorem check_body_big (hno : noneB G k = false) (h0 : 0 ≤ G.tet k) (h1 : (G.n : Int) ≤ G.tet k) (hR : ∀ a' W', Below W.heap.size W W' → Q .ret a' (W'.setCell ⟨b2, 0, none⟩ (.int .i64 7))) (x0 : W.cell? ⟨b5, 0, none⟩ = some (.int .i64 (G.tet k))) (x1 : W.cell? ⟨b5, 1, none⟩ = some (.int .i64 (G.pm k 0))) (x2 : W.cell? ⟨b5, 2, none⟩ = some (.int .i64 (G.pm k 1))) (x3 : W.cell? ⟨b5, 3, none⟩ = some (.int .i64 (G.pm k 2))) (x4 : W.cell? ⟨b5, 4, none⟩ = some (.int .i64 (G.pm k 3))) (y0 : W.cell? ⟨b3, 0, none⟩ = some (.int .i64 (-1))) (y1 : W.cell? ⟨b3, 1, none⟩ = some (.int .i64 (0))) (y2 : W.cell? ⟨b3, 2, none⟩ = some (.int .i64 (0))) (y3 : W.cell? ⟨b3, 3, none⟩ = some (.int .i64 (0))) (y4 : W.cell? ⟨b3, 4, none⟩ = some (.int .i64 (0))) (z0 : W.cell? ⟨b4, 0, none⟩ = some (.int .i64 (t : Int))) (z1 : W.cell? ⟨b4, 1, none⟩ = some (.int .i64 (f : Int))) (r0 : W.cell? ⟨b2, 0, none⟩ = some (.int .i64 0)) (rf : W.frozen? ⟨b2, 0, none⟩ = false) (v0 : W.cell? ⟨b1, 0, none⟩ = some (.slice a G.n cap)) : (bodyOf Try.f57).wpIn (Fence.wide.inRound l) m Try.prog Q { tmps := #[s0, .pointer (some ⟨b1, 0, none⟩), .pointer (some ⟨b2, 0, none⟩), .pointer (some ⟨b3, 0, none⟩), .pointer (some ⟨b4, 0, none⟩), .pointer (some ⟨b5, 0, none⟩), s6, s7, s8, s9, s10, s11, s12, s13, s14, s15, s16, s17, s18, s19, s20, s21, s22, s23, s24, s25, s26, s27, s28, s29, s30, s31, s32, s33, s34, s35, s36, s37, s38, s39, s40, s41, s42, s43, s44, s45, s46, s47, s48, s49, s50, s51, s52, s53, s54, s55, s56, s57, s58, s59, s60, s61, s62, s63, s64, s65, s66, s67, s68, s69, s70], defers := [] } W := by
  have d0 : decide (G.tet k < 0) = false := by simpa using h0
  simp only [bodyOf, rfBody, Try.f57, Option.getD_some]
  have HR := Lib.hid hR; clear hR
  have he := fun w => run_equal_face (G.tet k) (-1) (G.pm k 0) (G.pm k 1) (G.pm k 2) (G.pm k 3) 0 0 0 0 w
  have hno' : (G.tet k == -1 && (G.pm k 0 == 0 && (G.pm k 1 == 0 && (G.pm k 2 == 0 && G.pm k 3 == 0)))) = false := by simpa [noneB, all4, Bool.and_assoc] using hno
  simp only [hno'] at he
  clear hno hno'
  gi_wp2_with fail
  clear he
  have kx0 := cell_regrown x0
  have kx1 := cell_regrown x1
  have kx2 := cell_regrown x2
  have kx3 := cell_regrown x3
  have kx4 := cell_regrown x4
  have kz0 := cell_regrown z0
  have kz1 := cell_regrown z1
  have kv := cell_regrown v0
  have kr := cell_regrown r0
  have kf : ∀ d os, (grow (redrawn W d) os).frozen? ⟨b2, 0, none⟩ = false := fun d os => ((below_regrown W d os).frozen (p := ⟨b2, 0, none⟩) (World.block_lt_of_cell? W _ r0)).trans rf
  refine wpIn_quiet_round (fun w' => ∃ p : Regrown, w' = grow (redrawn W p.d) p.os) (by kernel_rfl) (by kernel_rfl) (by kernel_rfl) ⟨⟨W.drawn + 1, #[]⟩, by rw [grow_empty]; rfl⟩ ?_
  repeat (go_big_quiet_step (first | exact cV _ _))
  refine wpQuiet_nil ?_
  rintro w' ⟨⟨d, os⟩, rfl⟩
  gi_wp2
  exact HR.out _ _ (below_regrown W d os)
set_option maxRecDepth 100000 in
set_option maxHeartbeats 4000000 in
theorem check_body_inval (hno : noneB G k = false) (h0 : 0 ≤ G.tet k) (h1 : G.tet k < (G.n : Int)) (hv : validF (G.p k) = false) (hR : ∀ a' W', Below W.heap.size W W' → Q .ret a' (W'.setCell ⟨b2, 0, none⟩ (.int .i64 7))) (x0 : W.cell? ⟨b5, 0, none⟩ = some (.int .i64 (G.tet k))) (x1 : W.cell? ⟨b5, 1, none⟩ = some (.int .i64 (G.pm k 0))) (x2 : W.cell? ⟨b5, 2, none⟩ = some (.int .i64 (G.pm k 1))) (x3 : W.cell? ⟨b5, 3, none⟩ = some (.int .i64 (G.pm k 2))) (x4 : W.cell? ⟨b5, 4, none⟩ = some (.int .i64 (G.pm k 3))) (y0 : W.cell? ⟨b3, 0, none⟩ = some (.int .i64 (-1))) (y1 : W.cell? ⟨b3, 1, none⟩ = some (.int .i64 (0))) (y2 : W.cell? ⟨b3, 2, none⟩ = some (.int .i64 (0))) (y3 : W.cell? ⟨b3, 3, none⟩ = some (.int .i64 (0))) (y4 : W.cell? ⟨b3, 4, none⟩ = some (.int .i64 (0))) (z0 : W.cell? ⟨b4, 0, none⟩ = some (.int .i64 (t : Int))) (z1 : W.cell? ⟨b4, 1, none⟩ = some (.int .i64 (f : Int))) (r0 : W.cell? ⟨b2, 0, none⟩ = some (.int .i64 0)) (rf : W.frozen? ⟨b2, 0, none⟩ = false) (v0 : W.cell? ⟨b1, 0, none⟩ = some (.slice a G.n cap)) : (bodyOf Try.f57).wpIn (Fence.wide.inRound l) m Try.prog Q { tmps := #[s0, .pointer (some ⟨b1, 0, none⟩), .pointer (some ⟨b2, 0, none⟩), .pointer (some ⟨b3, 0, none⟩), .pointer (some ⟨b4, 0, none⟩), .pointer (some ⟨b5, 0, none⟩), s6, s7, s8, s9, s10, s11, s12, s13, s14, s15, s16, s17, s18, s19, s20, s21, s22, s23, s24, s25, s26, s27, s28, s29, s30, s31, s32, s33, s34, s35, s36, s37, s38, s39, s40, s41, s42, s43, s44, s45, s46, s47, s48, s49, s50, s51, s52, s53, s54, s55, s56, s57, s58, s59, s60, s61, s62, s63, s64, s65, s66, s67, s68, s69, s70], defers := [] } W := by
  have d0 : decide (G.tet k < 0) = false := by simpa using h0
  have d1 : decide ((G.n : Int) ≤ G.tet k) = false := by simpa using h1
  have cV : ∀ d os, Calls Try.prog 82 #[.agg #[Value.int .i64 (G.pm k 0), Value.int .i64 (G.pm k 1), Value.int .i64 (G.pm k 2), Value.int .i64 (G.pm k 3)]] (grow (redrawn W d) os) fun e w'' => e = .returned (.bool false) ∧ ∃ p : Regrown, w'' = grow (redrawn W p.d) p.os := fun d os => Calls.regrown_of (hv ▸ valid_walk (G.p k) _)
  clear hv
  simp only [bodyOf, rfBody, Try.f57, Option.getD_some]
  have HR := Lib.hid hR; clear hR
  have he := fun w => run_equal_face (G.tet k) (-1) (G.pm k 0) (G.pm k 1) (G.pm k 2) (G.pm k 3) 0 0 0 0 w
  have hno' : (G.tet k == -1 && (G.pm k 0 == 0 && (G.pm k 1 == 0 && (G.pm k 2 == 0 && G.pm k 3 == 0)))) = false := by simpa [noneB, all4, Bool.and_assoc] using hno
  simp only [hno'] at he
  clear hno hno'
  gi_wp2_with fail
  clear he
  have kx0 := cell_regrown x0
  have kx1 := cell_regrown x1
  have kx2 := cell_regrown x2
  have kx3 := cell_regrown x3
  have kx4 := cell_regrown x4
  have kz0 := cell_regrown z0
  have kz1 := cell_regrown z1
  have kv := cell_regrown v0
  have kr := cell_regrown r0
  have kf : ∀ d os, (grow (redrawn W d) os).frozen? ⟨b2, 0, none⟩ = false := fun d os => ((below_regrown W d os).frozen (p := ⟨b2, 0, none⟩) (World.block_lt_of_cell? W _ r0)).trans rf
  refine wpIn_quiet_round (fun w' => ∃ p : Regrown, w' = grow (redrawn W p.d) p.os) (by kernel_rfl) (by kernel_rfl) (by kernel_rfl) ⟨⟨W.drawn + 1, #[]⟩, by rw [grow_empty]; rfl⟩ ?_
  repeat (go_big_quiet_step (first | exact cV _ _))
  refine wpQuiet_nil ?_
  rintro w' ⟨⟨d, os⟩, rfl⟩
  gi_wp2
  exact HR.out _ _ (below_regrown W d os)
set_option maxRecDepth 100000 in
set_option maxHeartbeats 4000000 in
theorem check_body_self (hno : noneB G k = false) (hf : f < 4) (h0 : 0 ≤ G.tet k) (h1 : G.tet k < (G.n : Int)) (hv : validF (G.p k) = true) (e1 : (G.tet k == (t : Int)) = true) (e2 : (G.pm k f == (f : Int)) = true) (hR : ∀ a' W', Below W.heap.size W W' → Q .ret a' (W'.setCell ⟨b2, 0, none⟩ (.int .i64 7))) (x0 : W.cell? ⟨b5, 0, none⟩ = some (.int .i64 (G.tet k))) (x1 : W.cell? ⟨b5, 1, none⟩ = some (.int .i64 (G.pm k 0))) (x2 : W.cell? ⟨b5, 2, none⟩ = some (.int .i64 (G.pm k 1))) (x3 : W.cell? ⟨b5, 3, none⟩ = some (.int .i64 (G.pm k 2))) (x4 : W.cell? ⟨b5, 4, none⟩ = some (.int .i64 (G.pm k 3))) (y0 : W.cell? ⟨b3, 0, none⟩ = some (.int .i64 (-1))) (y1 : W.cell? ⟨b3, 1, none⟩ = some (.int .i64 (0))) (y2 : W.cell? ⟨b3, 2, none⟩ = some (.int .i64 (0))) (y3 : W.cell? ⟨b3, 3, none⟩ = some (.int .i64 (0))) (y4 : W.cell? ⟨b3, 4, none⟩ = some (.int .i64 (0))) (z0 : W.cell? ⟨b4, 0, none⟩ = some (.int .i64 (t : Int))) (z1 : W.cell? ⟨b4, 1, none⟩ = some (.int .i64 (f : Int))) (r0 : W.cell? ⟨b2, 0, none⟩ = some (.int .i64 0)) (rf : W.frozen? ⟨b2, 0, none⟩ = false) (v0 : W.cell? ⟨b1, 0, none⟩ = some (.slice a G.n cap)) : (bodyOf Try.f57).wpIn (Fence.wide.inRound l) m Try.prog Q { tmps := #[s0, .pointer (some ⟨b1, 0, none⟩), .pointer (some ⟨b2, 0, none⟩), .pointer (some ⟨b3, 0, none⟩), .pointer (some ⟨b4, 0, none⟩), .pointer (some ⟨b5, 0, none⟩), s6, s7, s8, s9, s10, s11, s12, s13, s14, s15, s16, s17, s18, s19, s20, s21, s22, s23, s24, s25, s26, s27, s28, s29, s30, s31, s32, s33, s34, s35, s36, s37, s38, s39, s40, s41, s42, s43, s44, s45, s46, s47, s48, s49, s50, s51, s52, s53, s54, s55, s56, s57, s58, s59, s60, s61, s62, s63, s64, s65, s66, s67, s68, s69, s70], defers := [] } W := by
  have d0 : decide (G.tet k < 0) = false := by simpa using h0
  have d1 : decide ((G.n : Int) ≤ G.tet k) = false := by simpa using h1
  have cV : ∀ d os, Calls Try.prog 82 #[.agg #[Value.int .i64 (G.pm k 0), Value.int .i64 (G.pm k 1), Value.int .i64 (G.pm k 2), Value.int .i64 (G.pm k 3)]] (grow (redrawn W d) os) fun e w'' => e = .returned (.bool true) ∧ ∃ p : Regrown, w'' = grow (redrawn W p.d) p.os := fun d os => Calls.regrown_of (hv ▸ valid_walk (G.p k) _)
  clear hv
  have xf : W.cell? ⟨b5, 1 + f, none⟩ = some (.int .i64 (G.pm k f)) := by
    have h4 : f = 0 ∨ f = 1 ∨ f = 2 ∨ f = 3 := by omega
    rcases h4 with h | h | h | h <;> rw [h]
    · exact x1
    · exact x2
    · exact x3
    · exact x4
  have kxf := cell_regrown xf
  simp only [bodyOf, rfBody, Try.f57, Option.getD_some]
  have HR := Lib.hid hR; clear hR
  have he := fun w => run_equal_face (G.tet k) (-1) (G.pm k 0) (G.pm k 1) (G.pm k 2) (G.pm k 3) 0 0 0 0 w
  have hno' : (G.tet k == -1 && (G.pm k 0 == 0 && (G.pm k 1 == 0 && (G.pm k 2 == 0 && G.pm k 3 == 0)))) = false := by simpa [noneB, all4, Bool.and_assoc] using hno
  simp only [hno'] at he
  clear hno hno'
  gi_wp2_with fail
  clear he
  have kx0 := cell_regrown x0
  have kx1 := cell_regrown x1
  have kx2 := cell_regrown x2
  have kx3 := cell_regrown x3
  have kx4 := cell_regrown x4
  have kz0 := cell_regrown z0
  have kz1 := cell_regrown z1
  have kv := cell_regrown v0
  have kr := cell_regrown r0
  have kf : ∀ d os, (grow (redrawn W d) os).frozen? ⟨b2, 0, none⟩ = false := fun d os => ((below_regrown W d os).frozen (p := ⟨b2, 0, none⟩) (World.block_lt_of_cell? W _ r0)).trans rf
  refine wpIn_quiet_round (fun w' => ∃ p : Regrown, w' = grow (redrawn W p.d) p.os) (by kernel_rfl) (by kernel_rfl) (by kernel_rfl) ⟨⟨W.drawn + 1, #[]⟩, by rw [grow_empty]; rfl⟩ ?_
  repeat (go_big_quiet_step (first | exact cV _ _))
  refine wpQuiet_nil ?_
  rintro w' ⟨⟨d, os⟩, rfl⟩
  gi_wp2
  exact HR.out _ _ (below_regrown W d os)
end
end Go.Proofs.Ytlckpgahijlmoaa
namespace Go.Proofs.Ytlckpgahijlmoaa
open Go.RowKit Go.Shelf Go.Sort
attribute [local go_sem] Oper.semAt_some

section
variable {l m : Nat} {G : Gl} {k t f b1 b2 b3 b4 b5 : Nat} {a : Option Addr} {b off cap : Nat} {W : World} {Q : Exit → Act → World → Prop} {s0 s6 s7 s8 s9 s10 s11 s12 s13 s14 s15 s16 s17 s18 s19 s20 s21 s22 s23 s24 s25 s26 s27 s28 s29 s30 s31 s32 s33 s34 s35 s36 s37 s38 s39 s40 s41 s42 s43 s44 s45 s46 s47 s48 s49 s50 s51 s52 s53 s54 s55 s56 s57 s58 s59 s60 s61 s62 s63 s64 s65 s66 s67 s68 s69 s70 : Value}
set_option maxRecDepth 100000 in
set_option maxHeartbeats 4000000 in
theorem check_body_other_ok (j : Nat) (hf : f < 4) (h0 : 0 ≤ G.tet k) (h1 : G.tet k < (G.n : Int)) (hy0 : 0 ≤ G.pm k f) (hy1 : G.pm k f < 4) (_hn : G.n ≤ 1000) (hno : (G.tet k == -1 && (G.pm k 0 == 0 && (G.pm k 1 == 0 && (G.pm k 2 == 0 && G.pm k 3 == 0)))) = false) (hv : validF (G.pm k) = true) (e1 : (G.tet k == (t : Int)) = false) (hm : (G.tet j == (t : Int) && (G.pm j 0 == invF (G.pm k) 0 && (G.pm j 1 == invF (G.pm k) 1 && (G.pm j 2 == invF (G.pm k) 2 && G.pm j 3 == invF (G.pm k) 3)))) = true) (hN : ∀ a' W', Below W.heap.size W W' → Q .normal a' W') (x0 : W.cell? ⟨b5, 0, none⟩ = some (.int .i64 (G.tet k))) (x1 : W.cell? ⟨b5, 1, none⟩ = some (.int .i64 (G.pm k 0))) (x2 : W.cell? ⟨b5, 2, none⟩ = some (.int .i64 (G.pm k 1))) (x3 : W.cell? ⟨b5, 3, none⟩ = some (.int .i64 (G.pm k 2))) (x4 : W.cell? ⟨b5, 4, none⟩ = some (.int .i64 (G.pm k 3))) (y0 : W.cell? ⟨b3, 0, none⟩ = some (.int .i64 (-1))) (y1 : W.cell? ⟨b3, 1, none⟩ = some (.int .i64 (0))) (y2 : W.cell? ⟨b3, 2, none⟩ = some (.int .i64 (0))) (y3 : W.cell? ⟨b3, 3, none⟩ = some (.int .i64 (0))) (y4 : W.cell? ⟨b3, 4, none⟩ = some (.int .i64 (0))) (z0 : W.cell? ⟨b4, 0, none⟩ = some (.int .i64 (t : Int))) (z1 : W.cell? ⟨b4, 1, none⟩ = some (.int .i64 (f : Int))) (r0 : W.cell? ⟨b2, 0, none⟩ = some (.int .i64 0)) (rf : W.frozen? ⟨b2, 0, none⟩ = false) (v0 : W.cell? ⟨b1, 0, none⟩ = some (.slice (some ⟨b, off, none⟩) G.n cap)) (xf : W.cell? ⟨b5, 1 + f, none⟩ = some (.int .i64 (G.pm k f))) (g0 : W.cell? ⟨b, off + (G.tet k).toNat * 20 + (G.pm k f).toNat * 5, none⟩ = some (.int .i64 (G.tet j))) (g1 : W.cell? ⟨b, off + (G.tet k).toNat * 20 + (G.pm k f).toNat * 5 + 1, none⟩ = some (.int .i64 (G.pm j 0))) (g2 : W.cell? ⟨b, off + (G.tet k).toNat * 20 + (G.pm k f).toNat * 5 + 2, none⟩ = some (.int .i64 (G.pm j 1))) (g3 : W.cell? ⟨b, off + (G.tet k).toNat * 20 + (G.pm k f).toNat * 5 + 3, none⟩ = some (.int .i64 (G.pm j 2))) (g4 : W.cell? ⟨b, off + (G.tet k).toNat * 20 + (G.pm k f).toNat * 5 + 4, none⟩ = some (.int .i64 (G.pm j 3))) : (bodyOf Try.f57).wpIn (Fence.wide.inRound l) m Try.prog Q { tmps := #[s0, .pointer (some ⟨b1, 0, none⟩), .pointer (some ⟨b2, 0, none⟩), .pointer (some ⟨b3, 0, none⟩), .pointer (some ⟨b4, 0, none⟩), .pointer (some ⟨b5, 0, none⟩), s6, s7, s8, s9, s10, s11, s12, s13, s14, s15, s16, s17, s18, s19, s20, s21, s22, s23, s24, s25, s26, s27, s28, s29, s30, s31, s32, s33, s34, s35, s36, s37, s38, s39, s40, s41, s42, s43, s44, s45, s46, s47, s48, s49, s50, s51, s52, s53, s54, s55, s56, s57, s58, s59, s60, s61, s62, s63, s64, s65, s66, s67, s68, s69, s70], defers := [] } W := by
  simp only [bodyOf, rfBody, Try.f57, Option.getD_some]
  have HN := Lib.hid hN; clear hN
  have he := fun w => run_equal_face (G.tet k) (-1) (G.pm k 0) (G.pm k 1) (G.pm k 2) (G.pm k 3) 0 0 0 0 w
  simp only [hno] at he
  clear hno
  have d0 : decide (G.tet k < 0) = false := by simpa using h0
  have d1 : decide ((G.n : Int) ≤ G.tet k) = false := by simpa using h1
  have hinv := all4_iff.1 (by simp only [validF, Bool.and_eq_true] at hv; exact hv.1 : all4 (fun i => inB (G.pm k i)) = true)
  have cV : ∀ d os, Calls Try.prog 82 #[.agg #[Value.int .i64 (G.pm k 0), Value.int .i64 (G.pm k 1), Value.int .i64 (G.pm k 2), Value.int .i64 (G.pm k 3)]] (grow (redrawn W d) os) fun e w'' => e = .returned (.bool true) ∧ ∃ p : Regrown, w'' = grow (redrawn W p.d) p.os := fun d os => Calls.regrown_of (hv ▸ valid_walk (G.pm k) _)
  clear hv
  have HI := Lib.hid hinv; clear hinv
  have HM := Lib.hid hm; clear hm
  gi_wp2_with fail
  clear he
  have kx0 := cell_regrown x0
  have kx1 := cell_regrown x1
  have kx2 := cell_regrown x2
  have kx3 := cell_regrown x3
  have kx4 := cell_regrown x4
  have kz0 := cell_regrown z0
  have kz1 := cell_regrown z1
  have kv := cell_regrown v0
  have kr := cell_regrown r0
  have kf : ∀ d os, (grow (redrawn W d) os).frozen? ⟨b2, 0, none⟩ = false := fun d os => ((below_regrown W d os).frozen (p := ⟨b2, 0, none⟩) (World.block_lt_of_cell? W _ r0)).trans rf
  have kxf := cell_regrown xf
  have kg0 := cell_regrown g0
  have kg1 := cell_regrown g1
  have kg2 := cell_regrown g2
  have kg3 := cell_regrown g3
  have kg4 := cell_regrown g4
  refine wpIn_quiet_round (fun w' => ∃ p : Regrown, w' = grow (redrawn W p.d) p.os) (by kernel_rfl) (by kernel_rfl) (by kernel_rfl) ⟨⟨W.drawn + 1, #[]⟩, by rw [grow_empty]; rfl⟩ ?_
  repeat (go_big_quiet_step (first | exact cV _ _))
  refine wpQuiet_nil ?_
  rintro w' ⟨⟨d, os⟩, rfl⟩
  clear cV
  have hb1 := below_regrown W d os
  replace x0 := kx0 d os
  clear kx0
  replace x1 := kx1 d os
  clear kx1
  replace x2 := kx2 d os
  clear kx2
  replace x3 := kx3 d os
  clear kx3
  replace x4 := kx4 d os
  clear kx4
  replace z0 := kz0 d os
  clear kz0
  replace z1 := kz1 d os
  clear kz1
  replace r0 := kr d os
  clear kr
  replace rf := kf d os
  clear kf
  replace v0 := kv d os
  clear kv
  replace xf := kxf d os
  clear kxf
  replace g0 := kg0 d os
  clear kg0
  replace g1 := kg1 d os
  clear kg1
  replace g2 := kg2 d os
  clear kg2
  replace g3 := kg3 d os
  clear kg3
  replace g4 := kg4 d os
  clear kg4
  clear y0 y1 y2 y3 y4
  generalize grow (redrawn W d) os = W1 at *
  gi_wp2_with fail
  have kx0 := cell_regrown x0
  have kx1 := cell_regrown x1
  have kx2 := cell_regrown x2
  have kx3 := cell_regrown x3
  have kx4 := cell_regrown x4
  have kz0 := cell_regrown z0
  have kz1 := cell_regrown z1
  have kr0 := cell_regrown r0
  have kv0 := cell_regrown v0
  have kxf := cell_regrown xf
  have kg0 := cell_regrown g0
  have kg1 := cell_regrown g1
  have kg2 := cell_regrown g2
  have kg3 := cell_regrown g3
  have kg4 := cell_regrown g4
  have kf : ∀ d os, (grow (redrawn W1 d) os).frozen? ⟨b2, 0, none⟩ = false := fun d os => ((below_regrown W1 d os).frozen (p := ⟨b2, 0, none⟩) (World.block_lt_of_cell? W1 _ r0)).trans rf
  have cI : ∀ d os, Calls Try.prog 97 #[.agg #[Value.int .i64 (G.pm k 0), Value.int .i64 (G.pm k 1), Value.int .i64 (G.pm k 2), Value.int .i64 (G.pm k 3)]] (grow (redrawn W1 d) os) fun e w'' => e = .returned (.agg #[Value.int .i64 (invF (G.pm k) 0), Value.int .i64 (invF (G.pm k) 1), Value.int .i64 (invF (G.pm k) 2), Value.int .i64 (invF (G.pm k) 3)]) ∧ ∃ p : Regrown, w'' = grow (redrawn W1 p.d) p.os := fun d os => Calls.regrown_of (inverse_walk (G.pm k) _ HI.out)
  have he2 := fun w => run_equal_face (G.tet j) (t : Int) (G.pm j 0) (G.pm j 1) (G.pm j 2) (G.pm j 3) (invF (G.pm k) 0) (invF (G.pm k) 1) (invF (G.pm k) 2) (invF (G.pm k) 3) w
  simp only [HM.out] at he2
  refine wpIn_quiet_round (fun w' => ∃ p : Regrown, w' = grow (redrawn W1 p.d) p.os) (by kernel_rfl) (by kernel_rfl) (by kernel_rfl) ⟨⟨W1.drawn + 1, #[]⟩, by rw [grow_empty]; rfl⟩ ?_
  repeat (go_big_quiet_step (first | exact cI _ _))
  refine wpQuiet_nil ?_
  rintro w' ⟨⟨d2, os2⟩, rfl⟩
  gi_wp2
  exact HN.out _ _ (hb1.trans ((below_regrown W1 d2 os2).mono hb1.size))
set_option maxRecDepth 100000 in
set_option maxHeartbeats 4000000 in
theorem check_body_other_bad (j : Nat) (hf : f < 4) (h0 : 0 ≤ G.tet k) (h1 : G.tet k < (G.n : Int)) (hy0 : 0 ≤ G.pm k f) (hy1 : G.pm k f < 4) (_hn : G.n ≤ 1000) (hno : (G.tet k == -1 && (G.pm k 0 == 0 && (G.pm k 1 == 0 && (G.pm k 2 == 0 && G.pm k 3 == 0)))) = false) (hv : validF (G.pm k) = true) (e1 : (G.tet k == (t : Int)) = false) (hm : (G.tet j == (t : Int) && (G.pm j 0 == invF (G.pm k) 0 && (G.pm j 1 == invF (G.pm k) 1 && (G.pm j 2 == invF (G.pm k) 2 && G.pm j 3 == invF (G.pm k) 3)))) = false) (hR : ∀ a' W', Below W.heap.size W W' → Q .ret a' (W'.setCell ⟨b2, 0, none⟩ (.int .i64 7))) (x0 : W.cell? ⟨b5, 0, none⟩ = some (.int .i64 (G.tet k))) (x1 : W.cell? ⟨b5, 1, none⟩ = some (.int .i64 (G.pm k 0))) (x2 : W.cell? ⟨b5, 2, none⟩ = some (.int .i64 (G.pm k 1))) (x3 : W.cell? ⟨b5, 3, none⟩ = some (.int .i64 (G.pm k 2))) (x4 : W.cell? ⟨b5, 4, none⟩ = some (.int .i64 (G.pm k 3))) (y0 : W.cell? ⟨b3, 0, none⟩ = some (.int .i64 (-1))) (y1 : W.cell? ⟨b3, 1, none⟩ = some (.int .i64 (0))) (y2 : W.cell? ⟨b3, 2, none⟩ = some (.int .i64 (0))) (y3 : W.cell? ⟨b3, 3, none⟩ = some (.int .i64 (0))) (y4 : W.cell? ⟨b3, 4, none⟩ = some (.int .i64 (0))) (z0 : W.cell? ⟨b4, 0, none⟩ = some (.int .i64 (t : Int))) (z1 : W.cell? ⟨b4, 1, none⟩ = some (.int .i64 (f : Int))) (r0 : W.cell? ⟨b2, 0, none⟩ = some (.int .i64 0)) (rf : W.frozen? ⟨b2, 0, none⟩ = false) (v0 : W.cell? ⟨b1, 0, none⟩ = some (.slice (some ⟨b, off, none⟩) G.n cap)) (xf : W.cell? ⟨b5, 1 + f, none⟩ = some (.int .i64 (G.pm k f))) (g0 : W.cell? ⟨b, off + (G.tet k).toNat * 20 + (G.pm k f).toNat * 5, none⟩ = some (.int .i64 (G.tet j))) (g1 : W.cell? ⟨b, off + (G.tet k).toNat * 20 + (G.pm k f).toNat * 5 + 1, none⟩ = some (.int .i64 (G.pm j 0))) (g2 : W.cell? ⟨b, off + (G.tet k).toNat * 20 + (G.pm k f).toNat * 5 + 2, none⟩ = some (.int .i64 (G.pm j 1))) (g3 : W.cell? ⟨b, off + (G.tet k).toNat * 20 + (G.pm k f).toNat * 5 + 3, none⟩ = some (.int .i64 (G.pm j 2))) (g4 : W.cell? ⟨b, off + (G.tet k).toNat * 20 + (G.pm k f).toNat * 5 + 4, none⟩ = some (.int .i64 (G.pm j 3))) : (bodyOf Try.f57).wpIn (Fence.wide.inRound l) m Try.prog Q { tmps := #[s0, .pointer (some ⟨b1, 0, none⟩), .pointer (some ⟨b2, 0, none⟩), .pointer (some ⟨b3, 0, none⟩), .pointer (some ⟨b4, 0, none⟩), .pointer (some ⟨b5, 0, none⟩), s6, s7, s8, s9, s10, s11, s12, s13, s14, s15, s16, s17, s18, s19, s20, s21, s22, s23, s24, s25, s26, s27, s28, s29, s30, s31, s32, s33, s34, s35, s36, s37, s38, s39, s40, s41, s42, s43, s44, s45, s46, s47, s48, s49, s50, s51, s52, s53, s54, s55, s56, s57, s58, s59, s60, s61, s62, s63, s64, s65, s66, s67, s68, s69, s70], defers := [] } W := by
  simp only [bodyOf, rfBody, Try.f57, Option.getD_some]
  have HR := Lib.hid hR; clear hR
  have he := fun w => run_equal_face (G.tet k) (-1) (G.pm k 0) (G.pm k 1) (G.pm k 2) (G.pm k 3) 0 0 0 0 w
  simp only [hno] at he
  clear hno
  have d0 : decide (G.tet k < 0) = false := by simpa using h0
  have d1 : decide ((G.n : Int) ≤ G.tet k) = false := by simpa using h1
  have hinv := all4_iff.1 (by simp only [validF, Bool.and_eq_true] at hv; exact hv.1 : all4 (fun i => inB (G.pm k i)) = true)
  have cV : ∀ d os, Calls Try.prog 82 #[.agg #[Value.int .i64 (G.pm k 0), Value.int .i64 (G.pm k 1), Value.int .i64 (G.pm k 2), Value.int .i64 (G.pm k 3)]] (grow (redrawn W d) os) fun e w'' => e = .returned (.bool true) ∧ ∃ p : Regrown, w'' = grow (redrawn W p.d) p.os := fun d os => Calls.regrown_of (hv ▸ valid_walk (G.pm k) _)
  clear hv
  have HI := Lib.hid hinv; clear hinv
  have HM := Lib.hid hm; clear hm
  gi_wp2_with fail
  clear he
  have kx0 := cell_regrown x0
  have kx1 := cell_regrown x1
  have kx2 := cell_regrown x2
  have kx3 := cell_regrown x3
  have kx4 := cell_regrown x4
  have kz0 := cell_regrown z0
  have kz1 := cell_regrown z1
  have kv := cell_regrown v0
  have kr := cell_regrown r0
  have kf : ∀ d os, (grow (redrawn W d) os).frozen? ⟨b2, 0, none⟩ = false := fun d os => ((below_regrown W d os).frozen (p := ⟨b2, 0, none⟩) (World.block_lt_of_cell? W _ r0)).trans rf
  have kxf := cell_regrown xf
  have kg0 := cell_regrown g0
  have kg1 := cell_regrown g1
  have kg2 := cell_regrown g2
  have kg3 := cell_regrown g3
  have kg4 := cell_regrown g4
  refine wpIn_quiet_round (fun w' => ∃ p : Regrown, w' = grow (redrawn W p.d) p.os) (by kernel_rfl) (by kernel_rfl) (by kernel_rfl) ⟨⟨W.drawn + 1, #[]⟩, by rw [grow_empty]; rfl⟩ ?_
  repeat (go_big_quiet_step (first | exact cV _ _))
  refine wpQuiet_nil ?_
  rintro w' ⟨⟨d, os⟩, rfl⟩
  clear cV
  have hb1 := below_regrown W d os
  replace x0 := kx0 d os
  clear kx0
  replace x1 := kx1 d os
  clear kx1
  replace x2 := kx2 d os
  clear kx2
  replace x3 := kx3 d os
  clear kx3
  replace x4 := kx4 d os
  clear kx4
  replace z0 := kz0 d os
  clear kz0
  replace z1 := kz1 d os
  clear kz1
  replace r0 := kr d os
  clear kr
  replace rf := kf d os
  clear kf
  replace v0 := kv d os
  clear kv
  replace xf := kxf d os
  clear kxf
  replace g0 := kg0 d os
  clear kg0
  replace g1 := kg1 d os
  clear kg1
  replace g2 := kg2 d os
  clear kg2
  replace g3 := kg3 d os
  clear kg3
  replace g4 := kg4 d os
  clear kg4
  clear y0 y1 y2 y3 y4
  generalize grow (redrawn W d) os = W1 at *
  gi_wp2_with fail
  have kx0 := cell_regrown x0
  have kx1 := cell_regrown x1
  have kx2 := cell_regrown x2
  have kx3 := cell_regrown x3
  have kx4 := cell_regrown x4
  have kz0 := cell_regrown z0
  have kz1 := cell_regrown z1
  have kr0 := cell_regrown r0
  have kv0 := cell_regrown v0
  have kxf := cell_regrown xf
  have kg0 := cell_regrown g0
  have kg1 := cell_regrown g1
  have kg2 := cell_regrown g2
  have kg3 := cell_regrown g3
  have kg4 := cell_regrown g4
  have kf : ∀ d os, (grow (redrawn W1 d) os).frozen? ⟨b2, 0, none⟩ = false := fun d os => ((below_regrown W1 d os).frozen (p := ⟨b2, 0, none⟩) (World.block_lt_of_cell? W1 _ r0)).trans rf
  have cI : ∀ d os, Calls Try.prog 97 #[.agg #[Value.int .i64 (G.pm k 0), Value.int .i64 (G.pm k 1), Value.int .i64 (G.pm k 2), Value.int .i64 (G.pm k 3)]] (grow (redrawn W1 d) os) fun e w'' => e = .returned (.agg #[Value.int .i64 (invF (G.pm k) 0), Value.int .i64 (invF (G.pm k) 1), Value.int .i64 (invF (G.pm k) 2), Value.int .i64 (invF (G.pm k) 3)]) ∧ ∃ p : Regrown, w'' = grow (redrawn W1 p.d) p.os := fun d os => Calls.regrown_of (inverse_walk (G.pm k) _ HI.out)
  have he2 := fun w => run_equal_face (G.tet j) (t : Int) (G.pm j 0) (G.pm j 1) (G.pm j 2) (G.pm j 3) (invF (G.pm k) 0) (invF (G.pm k) 1) (invF (G.pm k) 2) (invF (G.pm k) 3) w
  simp only [HM.out] at he2
  refine wpIn_quiet_round (fun w' => ∃ p : Regrown, w' = grow (redrawn W1 p.d) p.os) (by kernel_rfl) (by kernel_rfl) (by kernel_rfl) ⟨⟨W1.drawn + 1, #[]⟩, by rw [grow_empty]; rfl⟩ ?_
  repeat (go_big_quiet_step (first | exact cI _ _))
  refine wpQuiet_nil ?_
  rintro w' ⟨⟨d2, os2⟩, rfl⟩
  gi_wp2
  exact HR.out _ _ (hb1.trans ((below_regrown W1 d2 os2).mono hb1.size))
set_option maxRecDepth 100000 in
set_option maxHeartbeats 4000000 in
theorem check_body_same_ok (j : Nat) (hf : f < 4) (h0 : 0 ≤ G.tet k) (h1 : G.tet k < (G.n : Int)) (hy0 : 0 ≤ G.pm k f) (hy1 : G.pm k f < 4) (_hn : G.n ≤ 1000) (hno : (G.tet k == -1 && (G.pm k 0 == 0 && (G.pm k 1 == 0 && (G.pm k 2 == 0 && G.pm k 3 == 0)))) = false) (hv : validF (G.pm k) = true) (e1 : (G.tet k == (t : Int)) = true) (e2 : (G.pm k f == (f : Int)) = false) (hm : (G.tet j == (t : Int) && (G.pm j 0 == invF (G.pm k) 0 && (G.pm j 1 == invF (G.pm k) 1 && (G.pm j 2 == invF (G.pm k) 2 && G.pm j 3 == invF (G.pm k) 3)))) = true) (hN : ∀ a' W', Below W.heap.size W W' → Q .normal a' W') (x0 : W.cell? ⟨b5, 0, none⟩ = some (.int .i64 (G.tet k))) (x1 : W.cell? ⟨b5, 1, none⟩ = some (.int .i64 (G.pm k 0))) (x2 : W.cell? ⟨b5, 2, none⟩ = some (.int .i64 (G.pm k 1))) (x3 : W.cell? ⟨b5, 3, none⟩ = some (.int .i64 (G.pm k 2))) (x4 : W.cell? ⟨b5, 4, none⟩ = some (.int .i64 (G.pm k 3))) (y0 : W.cell? ⟨b3, 0, none⟩ = some (.int .i64 (-1))) (y1 : W.cell? ⟨b3, 1, none⟩ = some (.int .i64 (0))) (y2 : W.cell? ⟨b3, 2, none⟩ = some (.int .i64 (0))) (y3 : W.cell? ⟨b3, 3, none⟩ = some (.int .i64 (0))) (y4 : W.cell? ⟨b3, 4, none⟩ = some (.int .i64 (0))) (z0 : W.cell? ⟨b4, 0, none⟩ = some (.int .i64 (t : Int))) (z1 : W.cell? ⟨b4, 1, none⟩ = some (.int .i64 (f : Int))) (r0 : W.cell? ⟨b2, 0, none⟩ = some (.int .i64 0)) (rf : W.frozen? ⟨b2, 0, none⟩ = false) (v0 : W.cell? ⟨b1, 0, none⟩ = some (.slice (some ⟨b, off, none⟩) G.n cap)) (xf : W.cell? ⟨b5, 1 + f, none⟩ = some (.int .i64 (G.pm k f))) (g0 : W.cell? ⟨b, off + (G.tet k).toNat * 20 + (G.pm k f).toNat * 5, none⟩ = some (.int .i64 (G.tet j))) (g1 : W.cell? ⟨b, off + (G.tet k).toNat * 20 + (G.pm k f).toNat * 5 + 1, none⟩ = some (.int .i64 (G.pm j 0))) (g2 : W.cell? ⟨b, off + (G.tet k).toNat * 20 + (G.pm k f).toNat * 5 + 2, none⟩ = some (.int .i64 (G.pm j 1))) (g3 : W.cell? ⟨b, off + (G.tet k).toNat * 20 + (G.pm k f).toNat * 5 + 3, none⟩ = some (.int .i64 (G.pm j 2))) (g4 : W.cell? ⟨b, off + (G.tet k).toNat * 20 + (G.pm k f).toNat * 5 + 4, none⟩ = some (.int .i64 (G.pm j 3))) : (bodyOf Try.f57).wpIn (Fence.wide.inRound l) m Try.prog Q { tmps := #[s0, .pointer (some ⟨b1, 0, none⟩), .pointer (some ⟨b2, 0, none⟩), .pointer (some ⟨b3, 0, none⟩), .pointer (some ⟨b4, 0, none⟩), .pointer (some ⟨b5, 0, none⟩), s6, s7, s8, s9, s10, s11, s12, s13, s14, s15, s16, s17, s18, s19, s20, s21, s22, s23, s24, s25, s26, s27, s28, s29, s30, s31, s32, s33, s34, s35, s36, s37, s38, s39, s40, s41, s42, s43, s44, s45, s46, s47, s48, s49, s50, s51, s52, s53, s54, s55, s56, s57, s58, s59, s60, s61, s62, s63, s64, s65, s66, s67, s68, s69, s70], defers := [] } W := by
  simp only [bodyOf, rfBody, Try.f57, Option.getD_some]
  have HN := Lib.hid hN; clear hN
  have he := fun w => run_equal_face (G.tet k) (-1) (G.pm k 0) (G.pm k 1) (G.pm k 2) (G.pm k 3) 0 0 0 0 w
  simp only [hno] at he
  clear hno
  have d0 : decide (G.tet k < 0) = false := by simpa using h0
  have d1 : decide ((G.n : Int) ≤ G.tet k) = false := by simpa using h1
  have hinv := all4_iff.1 (by simp only [validF, Bool.and_eq_true] at hv; exact hv.1 : all4 (fun i => inB (G.pm k i)) = true)
  have cV : ∀ d os, Calls Try.prog 82 #[.agg #[Value.int .i64 (G.pm k 0), Value.int .i64 (G.pm k 1), Value.int .i64 (G.pm k 2), Value.int .i64 (G.pm k 3)]] (grow (redrawn W d) os) fun e w'' => e = .returned (.bool true) ∧ ∃ p : Regrown, w'' = grow (redrawn W p.d) p.os := fun d os => Calls.regrown_of (hv ▸ valid_walk (G.pm k) _)
  clear hv
  have HI := Lib.hid hinv; clear hinv
  have HM := Lib.hid hm; clear hm
  gi_wp2_with fail
  clear he
  have kx0 := cell_regrown x0
  have kx1 := cell_regrown x1
  have kx2 := cell_regrown x2
  have kx3 := cell_regrown x3
  have kx4 := cell_regrown x4
  have kz0 := cell_regrown z0
  have kz1 := cell_regrown z1
  have kv := cell_regrown v0
  have kr := cell_regrown r0
  have kf : ∀ d os, (grow (redrawn W d) os).frozen? ⟨b2, 0, none⟩ = false := fun d os => ((below_regrown W d os).frozen (p := ⟨b2, 0, none⟩) (World.block_lt_of_cell? W _ r0)).trans rf
  have kxf := cell_regrown xf
  have kg0 := cell_regrown g0
  have kg1 := cell_regrown g1
  have kg2 := cell_regrown g2
  have kg3 := cell_regrown g3
  have kg4 := cell_regrown g4
  refine wpIn_quiet_round (fun w' => ∃ p : Regrown, w' = grow (redrawn W p.d) p.os) (by kernel_rfl) (by kernel_rfl) (by kernel_rfl) ⟨⟨W.drawn + 1, #[]⟩, by rw [grow_empty]; rfl⟩ ?_
  repeat (go_big_quiet_step (first | exact cV _ _))
  refine wpQuiet_nil ?_
  rintro w' ⟨⟨d, os⟩, rfl⟩
  clear cV
  have hb1 := below_regrown W d os
  replace x0 := kx0 d os
  clear kx0
  replace x1 := kx1 d os
  clear kx1
  replace x2 := kx2 d os
  clear kx2
  replace x3 := kx3 d os
  clear kx3
  replace x4 := kx4 d os
  clear kx4
  replace z0 := kz0 d os
  clear kz0
  replace z1 := kz1 d os
  clear kz1
  replace r0 := kr d os
  clear kr
  replace rf := kf d os
  clear kf
  replace v0 := kv d os
  clear kv
  replace xf := kxf d os
  clear kxf
  replace g0 := kg0 d os
  clear kg0
  replace g1 := kg1 d os
  clear kg1
  replace g2 := kg2 d os
  clear kg2
  replace g3 := kg3 d os
  clear kg3
  replace g4 := kg4 d os
  clear kg4
  clear y0 y1 y2 y3 y4
  generalize grow (redrawn W d) os = W1 at *
  gi_wp2_with fail
  have kx0 := cell_regrown x0
  have kx1 := cell_regrown x1
  have kx2 := cell_regrown x2
  have kx3 := cell_regrown x3
  have kx4 := cell_regrown x4
  have kz0 := cell_regrown z0
  have kz1 := cell_regrown z1
  have kr0 := cell_regrown r0
  have kv0 := cell_regrown v0
  have kxf := cell_regrown xf
  have kg0 := cell_regrown g0
  have kg1 := cell_regrown g1
  have kg2 := cell_regrown g2
  have kg3 := cell_regrown g3
  have kg4 := cell_regrown g4
  have kf : ∀ d os, (grow (redrawn W1 d) os).frozen? ⟨b2, 0, none⟩ = false := fun d os => ((below_regrown W1 d os).frozen (p := ⟨b2, 0, none⟩) (World.block_lt_of_cell? W1 _ r0)).trans rf
  have cI : ∀ d os, Calls Try.prog 97 #[.agg #[Value.int .i64 (G.pm k 0), Value.int .i64 (G.pm k 1), Value.int .i64 (G.pm k 2), Value.int .i64 (G.pm k 3)]] (grow (redrawn W1 d) os) fun e w'' => e = .returned (.agg #[Value.int .i64 (invF (G.pm k) 0), Value.int .i64 (invF (G.pm k) 1), Value.int .i64 (invF (G.pm k) 2), Value.int .i64 (invF (G.pm k) 3)]) ∧ ∃ p : Regrown, w'' = grow (redrawn W1 p.d) p.os := fun d os => Calls.regrown_of (inverse_walk (G.pm k) _ HI.out)
  have he2 := fun w => run_equal_face (G.tet j) (t : Int) (G.pm j 0) (G.pm j 1) (G.pm j 2) (G.pm j 3) (invF (G.pm k) 0) (invF (G.pm k) 1) (invF (G.pm k) 2) (invF (G.pm k) 3) w
  simp only [HM.out] at he2
  refine wpIn_quiet_round (fun w' => ∃ p : Regrown, w' = grow (redrawn W1 p.d) p.os) (by kernel_rfl) (by kernel_rfl) (by kernel_rfl) ⟨⟨W1.drawn + 1, #[]⟩, by rw [grow_empty]; rfl⟩ ?_
  repeat (go_big_quiet_step (first | exact cI _ _))
  refine wpQuiet_nil ?_
  rintro w' ⟨⟨d2, os2⟩, rfl⟩
  gi_wp2
  exact HN.out _ _ (hb1.trans ((below_regrown W1 d2 os2).mono hb1.size))
set_option maxRecDepth 100000 in
set_option maxHeartbeats 4000000 in
theorem check_body_same_bad (j : Nat) (hf : f < 4) (h0 : 0 ≤ G.tet k) (h1 : G.tet k < (G.n : Int)) (hy0 : 0 ≤ G.pm k f) (hy1 : G.pm k f < 4) (_hn : G.n ≤ 1000) (hno : (G.tet k == -1 && (G.pm k 0 == 0 && (G.pm k 1 == 0 && (G.pm k 2 == 0 && G.pm k 3 == 0)))) = false) (hv : validF (G.pm k) = true) (e1 : (G.tet k == (t : Int)) = true) (e2 : (G.pm k f == (f : Int)) = false) (hm : (G.tet j == (t : Int) && (G.pm j 0 == invF (G.pm k) 0 && (G.pm j 1 == invF (G.pm k) 1 && (G.pm j 2 == invF (G.pm k) 2 && G.pm j 3 == invF (G.pm k) 3)))) = false) (hR : ∀ a' W', Below W.heap.size W W' → Q .ret a' (W'.setCell ⟨b2, 0, none⟩ (.int .i64 7))) (x0 : W.cell? ⟨b5, 0, none⟩ = some (.int .i64 (G.tet k))) (x1 : W.cell? ⟨b5, 1, none⟩ = some (.int .i64 (G.pm k 0))) (x2 : W.cell? ⟨b5, 2, none⟩ = some (.int .i64 (G.pm k 1))) (x3 : W.cell? ⟨b5, 3, none⟩ = some (.int .i64 (G.pm k 2))) (x4 : W.cell? ⟨b5, 4, none⟩ = some (.int .i64 (G.pm k 3))) (y0 : W.cell? ⟨b3, 0, none⟩ = some (.int .i64 (-1))) (y1 : W.cell? ⟨b3, 1, none⟩ = some (.int .i64 (0))) (y2 : W.cell? ⟨b3, 2, none⟩ = some (.int .i64 (0))) (y3 : W.cell? ⟨b3, 3, none⟩ = some (.int .i64 (0))) (y4 : W.cell? ⟨b3, 4, none⟩ = some (.int .i64 (0))) (z0 : W.cell? ⟨b4, 0, none⟩ = some (.int .i64 (t : Int))) (z1 : W.cell? ⟨b4, 1, none⟩ = some (.int .i64 (f : Int))) (r0 : W.cell? ⟨b2, 0, none⟩ = some (.int .i64 0)) (rf : W.frozen? ⟨b2, 0, none⟩ = false) (v0 : W.cell? ⟨b1, 0, none⟩ = some (.slice (some ⟨b, off, none⟩) G.n cap)) (xf : W.cell? ⟨b5, 1 + f, none⟩ = some (.int .i64 (G.pm k f))) (g0 : W.cell? ⟨b, off + (G.tet k).toNat * 20 + (G.pm k f).toNat * 5, none⟩ = some (.int .i64 (G.tet j))) (g1 : W.cell? ⟨b, off + (G.tet k).toNat * 20 + (G.pm k f).toNat * 5 + 1, none⟩ = some (.int .i64 (G.pm j 0))) (g2 : W.cell? ⟨b, off + (G.tet k).toNat * 20 + (G.pm k f).toNat * 5 + 2, none⟩ = some (.int .i64 (G.pm j 1))) (g3 : W.cell? ⟨b, off + (G.tet k).toNat * 20 + (G.pm k f).toNat * 5 + 3, none⟩ = some (.int .i64 (G.pm j 2))) (g4 : W.cell? ⟨b, off + (G.tet k).toNat * 20 + (G.pm k f).toNat * 5 + 4, none⟩ = some (.int .i64 (G.pm j 3))) : (bodyOf Try.f57).wpIn (Fence.wide.inRound l) m Try.prog Q { tmps := #[s0, .pointer (some ⟨b1, 0, none⟩), .pointer (some ⟨b2, 0, none⟩), .pointer (some ⟨b3, 0, none⟩), .pointer (some ⟨b4, 0, none⟩), .pointer (some ⟨b5, 0, none⟩), s6, s7, s8, s9, s10, s11, s12, s13, s14, s15, s16, s17, s18, s19, s20, s21, s22, s23, s24, s25, s26, s27, s28, s29, s30, s31, s32, s33, s34, s35, s36, s37, s38, s39, s40, s41, s42, s43, s44, s45, s46, s47, s48, s49, s50, s51, s52, s53, s54, s55, s56, s57, s58, s59, s60, s61, s62, s63, s64, s65, s66, s67, s68, s69, s70], defers := [] } W := by
  simp only [bodyOf, rfBody, Try.f57, Option.getD_some]
  have HR := Lib.hid hR; clear hR
  have he := fun w => run_equal_face (G.tet k) (-1) (G.pm k 0) (G.pm k 1) (G.pm k 2) (G.pm k 3) 0 0 0 0 w
  simp only [hno] at he
  clear hno
  have d0 : decide (G.tet k < 0) = false := by simpa using h0
  have d1 : decide ((G.n : Int) ≤ G.tet k) = false := by simpa using h1
  have hinv := all4_iff.1 (by simp only [validF, Bool.and_eq_true] at hv; exact hv.1 : all4 (fun i => inB (G.pm k i)) = true)
  have cV : ∀ d os, Calls Try.prog 82 #[.agg #[Value.int .i64 (G.pm k 0), Value.int .i64 (G.pm k 1), Value.int .i64 (G.pm k 2), Value.int .i64 (G.pm k 3)]] (grow (redrawn W d) os) fun e w'' => e = .returned (.bool true) ∧ ∃ p : Regrown, w'' = grow (redrawn W p.d) p.os := fun d os => Calls.regrown_of (hv ▸ valid_walk (G.pm k) _)
  clear hv
  have HI := Lib.hid hinv; clear hinv
  have HM := Lib.hid hm; clear hm
  gi_wp2_with fail
  clear he
  have kx0 := cell_regrown x0
  have kx1 := cell_regrown x1
  have kx2 := cell_regrown x2
  have kx3 := cell_regrown x3
  have kx4 := cell_regrown x4
  have kz0 := cell_regrown z0
  have kz1 := cell_regrown z1
  have kv := cell_regrown v0
  have kr := cell_regrown r0
  have kf : ∀ d os, (grow (redrawn W d) os).frozen? ⟨b2, 0, none⟩ = false := fun d os => ((below_regrown W d os).frozen (p := ⟨b2, 0, none⟩) (World.block_lt_of_cell? W _ r0)).trans rf
  have kxf := cell_regrown xf
  have kg0 := cell_regrown g0
  have kg1 := cell_regrown g1
  have kg2 := cell_regrown g2
  have kg3 := cell_regrown g3
  have kg4 := cell_regrown g4
  refine wpIn_quiet_round (fun w' => ∃ p : Regrown, w' = grow (redrawn W p.d) p.os) (by kernel_rfl) (by kernel_rfl) (by kernel_rfl) ⟨⟨W.drawn + 1, #[]⟩, by rw [grow_empty]; rfl⟩ ?_
  repeat (go_big_quiet_step (first | exact cV _ _))
  refine wpQuiet_nil ?_
  rintro w' ⟨⟨d, os⟩, rfl⟩
  clear cV
  have hb1 := below_regrown W d os
  replace x0 := kx0 d os
  clear kx0
  replace x1 := kx1 d os
  clear kx1
  replace x2 := kx2 d os
  clear kx2
  replace x3 := kx3 d os
  clear kx3
  replace x4 := kx4 d os
  clear kx4
  replace z0 := kz0 d os
  clear kz0
  replace z1 := kz1 d os
  clear kz1
  replace r0 := kr d os
  clear kr
  replace rf := kf d os
  clear kf
  replace v0 := kv d os
  clear kv
  replace xf := kxf d os
  clear kxf
  replace g0 := kg0 d os
  clear kg0
  replace g1 := kg1 d os
  clear kg1
  replace g2 := kg2 d os
  clear kg2
  replace g3 := kg3 d os
  clear kg3
  replace g4 := kg4 d os
  clear kg4
  clear y0 y1 y2 y3 y4
  generalize grow (redrawn W d) os = W1 at *
  gi_wp2_with fail
  have kx0 := cell_regrown x0
  have kx1 := cell_regrown x1
  have kx2 := cell_regrown x2
  have kx3 := cell_regrown x3
  have kx4 := cell_regrown x4
  have kz0 := cell_regrown z0
  have kz1 := cell_regrown z1
  have kr0 := cell_regrown r0
  have kv0 := cell_regrown v0
  have kxf := cell_regrown xf
  have kg0 := cell_regrown g0
  have kg1 := cell_regrown g1
  have kg2 := cell_regrown g2
  have kg3 := cell_regrown g3
  have kg4 := cell_regrown g4
  have kf : ∀ d os, (grow (redrawn W1 d) os).frozen? ⟨b2, 0, none⟩ = false := fun d os => ((below_regrown W1 d os).frozen (p := ⟨b2, 0, none⟩) (World.block_lt_of_cell? W1 _ r0)).trans rf
  have cI : ∀ d os, Calls Try.prog 97 #[.agg #[Value.int .i64 (G.pm k 0), Value.int .i64 (G.pm k 1), Value.int .i64 (G.pm k 2), Value.int .i64 (G.pm k 3)]] (grow (redrawn W1 d) os) fun e w'' => e = .returned (.agg #[Value.int .i64 (invF (G.pm k) 0), Value.int .i64 (invF (G.pm k) 1), Value.int .i64 (invF (G.pm k) 2), Value.int .i64 (invF (G.pm k) 3)]) ∧ ∃ p : Regrown, w'' = grow (redrawn W1 p.d) p.os := fun d os => Calls.regrown_of (inverse_walk (G.pm k) _ HI.out)
  have he2 := fun w => run_equal_face (G.tet j) (t : Int) (G.pm j 0) (G.pm j 1) (G.pm j 2) (G.pm j 3) (invF (G.pm k) 0) (invF (G.pm k) 1) (invF (G.pm k) 2) (invF (G.pm k) 3) w
  simp only [HM.out] at he2
  refine wpIn_quiet_round (fun w' => ∃ p : Regrown, w' = grow (redrawn W1 p.d) p.os) (by kernel_rfl) (by kernel_rfl) (by kernel_rfl) ⟨⟨W1.drawn + 1, #[]⟩, by rw [grow_empty]; rfl⟩ ?_
  repeat (go_big_quiet_step (first | exact cI _ _))
  refine wpQuiet_nil ?_
  rintro w' ⟨⟨d2, os2⟩, rfl⟩
  gi_wp2
  exact HR.out _ _ (hb1.trans ((below_regrown W1 d2 os2).mono hb1.size))
end
end Go.Proofs.Ytlckpgahijlmoaa
