/- skel.newClasses: the classes of a valid gluing. -/
import Derived.Test.YtlckpgahijlmoaaQ04
import Derived.Test.YtlckpgahijlmoaaQ08
import Derived.Deep.RegionHeld3
import Derived.IntWalk
namespace Go.Proofs.Ytlckpgahijlmoaa
open Go.RowKit Go.Shelf

section
variable {P : Program}
/-- an array is stored into the block that was made last -/
theorem wpList_store_new {ops : Array Oper} {rest : List Oper} {op : Oper} {a : Act} {w : World} {Q : Exit → Act → World → Prop} (hgd : op.guard = none) (ty : TypeId) (x y : Operand) (ho : op.op = .store ty x y)
    (c c' : Array Value) (hx : a.eval x = .pointer (some ⟨w.heap.size, 0, none⟩)) (hy : a.eval y = .agg c') (hi : (P.info? ty).map (·.size) = some c'.size) (hs : c.size = c'.size) (h1 : c'.all (·.oneCell') = true)
    (h : wpList P ops Q rest (a.put op.dst undef) (w.alloc (.cells c' ty))) : wpList P ops Q (op :: rest) a (w.alloc (.cells c ty)) := by
  refine wpList_plain hgd fun K hK => ?_
  unfold Oper.wp execOp
  simp only [ho, hx, hy, Instr.storeAt, Instr.sureAddr, Sem.run_bind, Sem.run_pure, Result.andThen_ok, run_storeVar_new w ty c c' hi hs h1]
  exact hK _ _ h
/-- .. and loaded out of it -/
theorem wpList_load_new {ops : Array Oper} {rest : List Oper} {op : Oper} {a : Act} {w : World} {Q : Exit → Act → World → Prop} (hgd : op.guard = none) (ty : TypeId) (x : Operand) (ho : op.op = .load ty x)
    (c : Array Value) (n : Nat) (e : TypeId) (hx : a.eval x = .pointer (some ⟨w.heap.size, 0, none⟩)) (hu : P.underlying ty = some (.array n e)) (hi : (P.info? ty).map (·.size) = some c.size)
    (h : wpList P ops Q rest (a.put op.dst (.agg c)) (w.alloc (.cells c ty))) : wpList P ops Q (op :: rest) a (w.alloc (.cells c ty)) := by
  refine wpList_plain hgd fun K hK => ?_
  unfold Oper.wp execOp
  simp only [ho, hx, Instr.loadAt, Instr.sureAddr, Sem.run_bind, Sem.run_pure, Result.andThen_ok, run_loadVar_new w ty c n e hu hi]
  exact hK _ _ h
end

theorem rowA_one (G : Gl) (t : Nat) : (rowA G t).all (·.oneCell') = true := all_oneCell_toArray (by intro v hv; simp at hv; rcases hv with rfl | rfl | rfl | rfl | rfl | rfl | rfl | rfl | rfl | rfl | rfl | rfl | rfl | rfl | rfl | rfl | rfl | rfl | rfl | rfl <;> rfl)

def Gl.T (G : Gl) (k : Nat) : Nat := (G.tet k).toNat
def Gl.P (G : Gl) (k i : Nat) : Nat := (G.pm k i).toNat
theorem ok_face {G : Gl} (h : checkB G = true) {k : Nat} (hk : k < 4 * G.n) (ht : ¬ G.tet k < 0) : G.tet k = (G.T k : Nat) ∧ G.T k < G.n ∧ ∀ i, i < 4 → G.pm k i = (G.P k i : Nat) ∧ G.P k i < 4 := by
  simp only [checkB, Bool.and_eq_true, List.all_eq_true, List.mem_range] at h
  have h1 := h.2 k hk
  simp only [okB, Bool.or_eq_true, Bool.and_eq_true, noneB, beq_iff_eq, inTetB, decide_eq_true_eq] at h1
  rcases h1 with h1 | h1
  · omega
  · obtain ⟨⟨⟨⟨h2, h3⟩, h4⟩, _⟩, _⟩ := h1
    simp only [validF, Bool.and_eq_true] at h4
    refine ⟨by simp [Gl.T]; omega, by simp [Gl.T]; omega, fun i hi => ?_⟩
    have := inB_iff.1 (all4_iff.1 h4.1 i hi)
    simp only [Gl.p] at this
    exact ⟨by simp [Gl.P]; omega, by simp [Gl.P]; omega⟩

theorem ok_inj {G : Gl} (h : checkB G = true) {k : Nat} (hk : k < 4 * G.n) (ht : ¬ G.tet k < 0) : ∀ i j, i < 4 → j < 4 → i ≠ j → G.P k i ≠ G.P k j := by
  have hf := ok_face h hk ht
  simp only [checkB, Bool.and_eq_true, List.all_eq_true, List.mem_range] at h
  have h1 := h.2 k hk
  simp only [okB, Bool.or_eq_true, Bool.and_eq_true, noneB, beq_iff_eq, inTetB, decide_eq_true_eq] at h1
  rcases h1 with h1 | h1
  · omega
  · obtain ⟨⟨⟨⟨h2, h3⟩, h4⟩, _⟩, _⟩ := h1
    simp only [validF, Bool.and_eq_true, beq_iff_eq] at h4
    have hm := h4.2
    obtain ⟨_, _, hp⟩ := hf
    have p0 := hp 0 (by omega)
    have p1 := hp 1 (by omega)
    have p2 := hp 2 (by omega)
    have p3 := hp 3 (by omega)
    simp only [maskF, Gl.p, p0.1, p1.1, p2.1, p3.1, Int.toNat_natCast] at hm
    have key : ∀ a b c d : Fin 4, (0 ||| 1 <<< a.val ||| 1 <<< b.val ||| 1 <<< c.val ||| 1 <<< d.val) = 15 → a ≠ b ∧ a ≠ c ∧ a ≠ d ∧ b ≠ c ∧ b ≠ d ∧ c ≠ d := by decide +kernel
    have := key ⟨_, p0.2⟩ ⟨_, p1.2⟩ ⟨_, p2.2⟩ ⟨_, p3.2⟩ hm
    simp only [ne_eq, Fin.mk.injEq] at this
    obtain ⟨k1, k2, k3, k4, k5, k6⟩ := this
    intro i j hi hj hij
    match i, hi, j, hj with
    | 0, _, 0, _ => exact absurd rfl hij
    | 0, _, 1, _ => exact k1
    | 0, _, 2, _ => exact k2
    | 0, _, 3, _ => exact k3
    | 1, _, 0, _ => exact Ne.symm k1
    | 1, _, 1, _ => exact absurd rfl hij
    | 1, _, 2, _ => exact k4
    | 1, _, 3, _ => exact k5
    | 2, _, 0, _ => exact Ne.symm k2
    | 2, _, 1, _ => exact Ne.symm k4
    | 2, _, 2, _ => exact absurd rfl hij
    | 2, _, 3, _ => exact k6
    | 3, _, 0, _ => exact Ne.symm k3
    | 3, _, 1, _ => exact Ne.symm k5
    | 3, _, 2, _ => exact Ne.symm k6
    | 3, _, 3, _ => exact absurd rfl hij

/-- m rounds -/
def lp {α : Type} (f : Nat → α → α) (s : α) : Nat → α
  | 0 => s
  | m + 1 => f m (lp f s m)

/-- the roots of the four kinds of classes -/
structure Cls where
  (r1 r2 r3 r4 : Nat → Nat)
def edN (i j : Nat) : Nat := (edgeF i j).toNat
theorem edN_eq (i j : Nat) (hi : i < 4) (hj : j < 4) (h : i ≠ j) : edgeF (i : Int) (j : Int) = (edN i j : Nat) ∧ edN i j < 6 := by
  have key : ∀ i j : Fin 4, i ≠ j → edgeF (i.val : Int) (j.val : Int) = (edN i.val j.val : Nat) ∧ edN i.val j.val < 6 := by decide +kernel
  exact key ⟨i, hi⟩ ⟨j, hj⟩ (by simpa using h)
def clsJ (G : Gl) (k i j : Nat) (s : Cls) : Cls :=
  if j ≠ k % 4 ∧ j ≠ i then
    { s with r2 := joinR s.r2 (16 * (k / 4) + 4 * i + j) (16 * G.T k + 4 * G.P k i + G.P k j), r3 := joinR s.r3 (6 * (k / 4) + edN i j) (6 * G.T k + edN (G.P k i) (G.P k j)) }
  else s
def clsI (G : Gl) (k i : Nat) (s : Cls) : Cls :=
  if i = k % 4 then s else lp (clsJ G k i) { s with r1 := joinR s.r1 (4 * (k / 4) + i) (4 * G.T k + G.P k i) } 4
def clsF (G : Gl) (k : Nat) (s : Cls) : Cls :=
  if G.tet k < 0 then s else lp (clsI G k) { s with r4 := joinR s.r4 k (4 * G.T k + G.P k (k % 4)) } 4
theorem clsI_ne {G : Gl} {k i : Nat} {s : Cls} (h : i ≠ k % 4) : clsI G k i s = lp (clsJ G k i) { s with r1 := joinR s.r1 (4 * (k / 4) + i) (4 * G.T k + G.P k i) } 4 := if_neg h
theorem clsF_ge {G : Gl} {k : Nat} {s : Cls} (h : ¬ G.tet k < 0) : clsF G k s = lp (clsI G k) { s with r4 := joinR s.r4 k (4 * G.T k + G.P k (k % 4)) } 4 := if_neg h
theorem clsJ_ne {G : Gl} {k i j : Nat} {s : Cls} (h : j ≠ k % 4) (h2 : j ≠ i) : clsJ G k i j s = { s with r2 := joinR s.r2 (16 * (k / 4) + 4 * i + j) (16 * G.T k + 4 * G.P k i + G.P k j), r3 := joinR s.r3 (6 * (k / 4) + edN i j) (6 * G.T k + edN (G.P k i) (G.P k j)) } := if_pos ⟨h, h2⟩
def cls0 : Cls := ⟨id, id, id, id⟩
def clsAll (G : Gl) : Cls := lp (clsF G) cls0 (4 * G.n)

/-- the classes in memory -/
structure CL (W : World) (B C b1 b2 b3 b4 n : Nat) (v : Value) (R : Cls) : Prop where
  gl : W.cell? ⟨C, 0, none⟩ = some v
  u1 : UF W C 1 b1 (4 * n) R.r1
  u2 : UF W C 2 b2 (16 * n) R.r2
  u3 : UF W C 3 b3 (6 * n) R.r3
  u4 : UF W C 4 b4 (4 * n) R.r4
  ne : b1 ≠ b2 ∧ b1 ≠ b3 ∧ b1 ≠ b4 ∧ b2 ≠ b3 ∧ b2 ≠ b4 ∧ b3 ≠ b4
  lo : B ≤ C ∧ B ≤ b1 ∧ B ≤ b2 ∧ B ≤ b3 ∧ B ≤ b4
theorem UF.congr {W : World} {pb po b n : Nat} {r r' : Nat → Nat} (h : UF W pb po b n r) (e : ∀ i, i < n → r i = r' i) : UF W pb po b n r' := by
  obtain ⟨u, hu, h1, h2, h3⟩ := h.row
  exact ⟨h.ptr, h.ne, u, hu, h1, fun i hi => by have := h1 i hi; rw [← e _ (by omega), ← e i hi]; exact h2 i hi, fun i hi q => by rw [← e i hi]; exact h3 i hi q⟩
theorem UF.lt {W : World} {pb po b n : Nat} {r : Nat → Nat} (h : UF W pb po b n r) : pb < W.heap.size ∧ b < W.heap.size := ⟨lt_of_cell h.ptr, by obtain ⟨u, hu, _⟩ := h.row; exact hu.lt⟩
theorem below_grown {B : Nat} {w w' : World} (h : Below B w w') (hB : w.heap.size ≤ B) (row : Option Nat) : w.grownBy w' row := ⟨h.os, h.tape, h.output, h.size, fun k hk _ => h.block k (by omega)⟩
theorem CL.below {W W' : World} {B C b1 b2 b3 b4 n : Nat} {v : Value} {R : Cls} (h : CL W B C b1 b2 b3 b4 n v R) (hb : Below W.heap.size W W') : CL W' B C b1 b2 b3 b4 n v R :=
  have hg := below_grown hb (Nat.le_refl _) none
  ⟨hg.cell h.gl (by simp), h.u1.kept hg (by simp) (by simp), h.u2.kept hg (by simp) (by simp), h.u3.kept hg (by simp) (by simp), h.u4.kept hg (by simp) (by simp), h.ne, h.lo⟩
theorem CL.join1 {W W' : World} {B C b1 b2 b3 b4 n : Nat} {v : Value} {R : Cls} {r : Nat → Nat} (h : CL W B C b1 b2 b3 b4 n v R) (hu : UF W' C 1 b1 (4 * n) r) (hg : W.grownBy W' (some b1)) : CL W' B C b1 b2 b3 b4 n v { R with r1 := r } := by
  obtain ⟨n1, n2, n3, n4, n5, n6⟩ := h.ne
  have c := h.u1.ne
  exact ⟨hg.cell h.gl (by simpa using c), hu, h.u2.kept hg (by simp; omega) (by simpa using c), h.u3.kept hg (by simp; omega) (by simpa using c), h.u4.kept hg (by simp; omega) (by simpa using c), h.ne, h.lo⟩
theorem CL.join2 {W W' : World} {B C b1 b2 b3 b4 n : Nat} {v : Value} {R : Cls} {r : Nat → Nat} (h : CL W B C b1 b2 b3 b4 n v R) (hu : UF W' C 2 b2 (16 * n) r) (hg : W.grownBy W' (some b2)) : CL W' B C b1 b2 b3 b4 n v { R with r2 := r } := by
  obtain ⟨n1, n2, n3, n4, n5, n6⟩ := h.ne
  have c := h.u2.ne
  exact ⟨hg.cell h.gl (by simpa using c), h.u1.kept hg (by simp; omega) (by simpa using c), hu, h.u3.kept hg (by simp; omega) (by simpa using c), h.u4.kept hg (by simp; omega) (by simpa using c), h.ne, h.lo⟩
theorem CL.join3 {W W' : World} {B C b1 b2 b3 b4 n : Nat} {v : Value} {R : Cls} {r : Nat → Nat} (h : CL W B C b1 b2 b3 b4 n v R) (hu : UF W' C 3 b3 (6 * n) r) (hg : W.grownBy W' (some b3)) : CL W' B C b1 b2 b3 b4 n v { R with r3 := r } := by
  obtain ⟨n1, n2, n3, n4, n5, n6⟩ := h.ne
  have c := h.u3.ne
  exact ⟨hg.cell h.gl (by simpa using c), h.u1.kept hg (by simp; omega) (by simpa using c), h.u2.kept hg (by simp; omega) (by simpa using c), hu, h.u4.kept hg (by simp; omega) (by simpa using c), h.ne, h.lo⟩
theorem CL.join4 {W W' : World} {B C b1 b2 b3 b4 n : Nat} {v : Value} {R : Cls} {r : Nat → Nat} (h : CL W B C b1 b2 b3 b4 n v R) (hu : UF W' C 4 b4 (4 * n) r) (hg : W.grownBy W' (some b4)) : CL W' B C b1 b2 b3 b4 n v { R with r4 := r } := by
  obtain ⟨n1, n2, n3, n4, n5, n6⟩ := h.ne
  have c := h.u4.ne
  exact ⟨hg.cell h.gl (by simpa using c), h.u1.kept hg (by simp; omega) (by simpa using c), h.u2.kept hg (by simp; omega) (by simpa using c), h.u3.kept hg (by simp; omega) (by simpa using c), hu, h.ne, h.lo⟩

/-- .. and the face at hand -/
structure FC (W : World) (B C b1 b2 b3 b4 : Nat) (v : Value) (A8 A9 : Nat) (G : Gl) (k : Nat) (R : Cls) : Prop where
  cl : CL W B C b1 b2 b3 b4 G.n v R
  c8 : W.cell? ⟨A8, 0, none⟩ = some (.int .i64 (G.T k : Nat))
  c9 : ∀ i, i < 4 → W.cell? ⟨A9, i, none⟩ = some (.int .i64 (G.P k i : Nat))
  lt : b1 < A8 ∧ b2 < A8 ∧ b3 < A8 ∧ b4 < A8 ∧ A8 < A9
section
variable {W W' : World} {B C b1 b2 b3 b4 : Nat} {v : Value} {A8 A9 : Nat} {G : Gl} {k : Nat} {R : Cls}
theorem FC.below (h : FC W B C b1 b2 b3 b4 v A8 A9 G k R) (hb : Below W.heap.size W W') : FC W' B C b1 b2 b3 b4 v A8 A9 G k R :=
  have hg := below_grown hb (Nat.le_refl _) none
  ⟨h.cl.below hb, hg.cell h.c8 (by simp), fun i hi => hg.cell (h.c9 i hi) (by simp), h.lt⟩
theorem FC.c (h : FC W B C b1 b2 b3 b4 v A8 A9 G k R) {b : Nat} (hg : W.grownBy W' (some b)) (hb : b < A8) {R' : Cls} (hc : CL W' B C b1 b2 b3 b4 G.n v R') : FC W' B C b1 b2 b3 b4 v A8 A9 G k R' :=
  ⟨hc, hg.cell h.c8 (by simp; omega), fun i hi => hg.cell (h.c9 i hi) (by have := h.lt; simp; omega), h.lt⟩
end

set_option maxRecDepth 100000 in
set_option maxHeartbeats 4000000 in
theorem newClasses_walk (G : Gl) (v : Value) (w : World) (hG : GlAt w.heap.size w v G) (hok : checkB G = true) :
    Calls Try.prog 60 #[.agg #[v]] w fun e w' => ∃ C b1 b2 b3 b4, e = .returned (.pointer (some ⟨C, 0, none⟩)) ∧ CL w' w.heap.size C b1 b2 b3 b4 G.n v (clsAll G) ∧ Below w.heap.size w w' := by
  have hn : G.n ≤ 1000 := by simp only [checkB, Bool.and_eq_true, decide_eq_true_eq] at hok; exact hok.1
  have HOK := Lib.hid hok; clear hok
  have HG := Lib.hid hG
  obtain ⟨a, b, off, cap, rfl, hga, hc⟩ := hG
  have HC := Lib.hid hc; clear hc
  have HA := Lib.hid hga; clear hga
  go_enter Try.func60, Try.ntmps60
  go_wp2_with fail
  refine wp_named fun W1 hW => ?_
  have c1 : W1.cell? ⟨w.heap.size, 0, none⟩ = some (.slice a G.n cap) := by rw [hW]; simp [go_sem]
  have hB1 : Below w.heap.size w W1 := by rw [hW]; (repeat' (first | assumption | exact Below.refl _ _ | refine below_then ?_ (by assumption) | refine below_al ?_ _ | refine below_dr ?_ | refine below_sc ?_ (by simp <;> omega) _))
  have hs1 : w.heap.size < W1.heap.size := by rw [hW]; simp
  clear hW
  generalize hN : w.heap.size = N at *
  obtain ⟨m4, hm4⟩ : ∃ m, m = 4 * G.n := ⟨_, rfl⟩
  obtain ⟨m16, hm16⟩ : ∃ m, m = 16 * G.n := ⟨_, rfl⟩
  obtain ⟨m6, hm6⟩ : ∃ m, m = 6 * G.n := ⟨_, rfl⟩
  have k4 : m4 ≤ 1000000 := by omega
  have k16 : m16 ≤ 1000000 := by omega
  have k6 : m6 ≤ 1000000 := by omega
  have q4 : IntKind.i64.wrap (4 * (G.n : Int)) = (m4 : Int) := by rw [IntWalk.i64_in _ (by omega)]; omega
  have q16 : IntKind.i64.wrap (16 * (G.n : Int)) = (m16 : Int) := by rw [IntWalk.i64_in _ (by omega)]; omega
  have q6 : IntKind.i64.wrap (6 * (G.n : Int)) = (m6 : Int) := by rw [IntWalk.i64_in _ (by omega)]; omega
  have HM := Lib.hid (And.intro hm4 (And.intro hm16 hm6)); clear hm4 hm16 hm6
  go_region_held3 (fun w' => w'.cell? ⟨N, 0, none⟩ = some (.slice a G.n cap) ∧ N < w'.heap.size)
    (first | assumption | (go_split_ands; exact ⟨(((Below.refl _ _).alloc (Nat.le_refl _) _).cell (p := ⟨N, 0, none⟩) (by show N < _; assumption)).trans (by assumption), by rw [World.size_alloc]; exact Nat.lt_succ_of_lt (by assumption)⟩) | exact ⟨by assumption, by simpa using hs1⟩ | (go_split_ands; exact ⟨(hb.cell (p := ⟨N, 0, none⟩) (by show N < _; assumption)).trans (by assumption), Nat.lt_of_lt_of_le (by assumption) hb.size⟩))
    (first | (go_at_call 102; with_reducible refine (newUnion_walk m4 k4 _).mono ?_; rintro e w' ⟨d, rfl, hd, hu, hb⟩) | (go_at_call 102; with_reducible refine (newUnion_walk m16 k16 _).mono ?_; rintro e w' ⟨d, rfl, hd, hu, hb⟩) | (go_at_call 102; with_reducible refine (newUnion_walk m6 k6 _).mono ?_; rintro e w' ⟨d, rfl, hd, hu, hb⟩))
  rename_i x1 d1 hd1 hu1 hb1 x2 d2 hd2 hu2 hb2 x3 d3 hd3 hu3 hb3 hH
  have hCL : ∀ W2, W2 = w'.alloc (.cells #[.slice a G.n cap, .slice (some ⟨d1, 0, none⟩) m4 m4, .slice (some ⟨d2, 0, none⟩) m16 m16, .slice (some ⟨d3, 0, none⟩) m6 m6, .slice (some ⟨d, 0, none⟩) m4 m4] 122) →
      CL W2 N w'.heap.size d1 d2 d3 d G.n (.slice a G.n cap) cls0 ∧ Below N w W2 ∧ W2.cell? ⟨N, 0, none⟩ = some (.slice a G.n cap) ∧ N < w'.heap.size ∧ w'.heap.size < W2.heap.size := by
    rintro W2 rfl
    obtain ⟨rfl, rfl, rfl⟩ := HM.out
    simp only [World.size_drew] at hd1
    have l1 := hu1.lt
    have l2 := hu2.lt
    have l3 := hu3.lt
    have l4 := hu.lt
    have s1 := hb1.size
    have s2 := hb2.size
    have s3 := hb3.size
    have s4 := hb.size
    simp only [World.size_drew] at s1
    have e1 := rowIs_kept (rowIs_kept (rowIs_kept hu1 (below_grown hb2 (Nat.le_refl _) none) (by simp)) (below_grown hb3 (Nat.le_refl _) none) (by simp)) (below_grown hb (Nat.le_refl _) none) (by simp)
    have e2 := rowIs_kept (rowIs_kept hu2 (below_grown hb3 (Nat.le_refl _) none) (by simp)) (below_grown hb (Nat.le_refl _) none) (by simp)
    have e3 := rowIs_kept hu3 (below_grown hb (Nat.le_refl _) none) (by simp)
    have rp : ∀ m, Reps m id id := fun m => ⟨fun i _ => Nat.le_refl _, fun i _ => rfl, fun i _ _ => rfl⟩
    refine ⟨⟨by simp [go_sem], ⟨by simp [go_sem], by omega, id, e1.alloc _, rp _⟩, ⟨by simp [go_sem], by omega, id, e2.alloc _, rp _⟩, ⟨by simp [go_sem], by omega, id, e3.alloc _, rp _⟩, ⟨by simp [go_sem], by omega, id, hu.alloc _, rp _⟩, by omega, by omega⟩, ?_, ?_, by omega, by simp⟩
    · refine ((((hB1.trans (below_dr (Below.refl N W1))).trans (hb1.mono (by simp; omega))).trans (hb2.mono (by omega))).trans ((hb3.mono (by omega)).trans (hb.mono (by omega)))).alloc (by omega) _
    · exact hH.1
  generalize hC : w'.heap.size = C at *
  generalize w'.alloc (.cells #[.slice a G.n cap, .slice (some ⟨d1, 0, none⟩) m4 m4, .slice (some ⟨d2, 0, none⟩) m16 m16, .slice (some ⟨d3, 0, none⟩) m6 m6, .slice (some ⟨d, 0, none⟩) m4 m4] 122) = W2 at *
  obtain ⟨hCL, hB2, c2, hNC, hCW⟩ := hCL W2 rfl
  have H2 := Lib.hid (And.intro hCL hB2)
  clear hCL hB2 hB1 hd1 hu1 hb1 hd2 hu2 hb2 hd3 hu3 hb3 hH hd hu hb hs1 c1 hC
  clear hCL x1 x2 x3 w' q4 q16 q6
  go_wp2
  go_loopw [37] (fun i wr => ∃ t : Nat, t ≤ G.n ∧ i = .int .i64 t ∧ CL wr N C d1 d2 d3 d G.n (.slice a G.n cap) (lp (clsF G) cls0 (4 * t)) ∧ Below N w wr ∧ W2.heap.size ≤ wr.heap.size) (fun i _ => G.n - (intOf i).toNat)
  case atStart => exact ⟨0, by omega, rfl, H2.out.1, H2.out.2, Nat.le_refl _⟩
  case round =>
    obtain ⟨t, ht, rfl, hCL, hB, hsz⟩ := hrel
    have HK := Lib.hid (And.intro hCL hB)
    rcases Nat.lt_or_ge t G.n with hlt | hge
    · obtain ⟨rfl, hbN⟩ := HA.out (by omega)
      have hrow := rowCells (fun k hk => ⟨(hB.cell (p := ⟨b, _, none⟩) hbN).trans (HC.out k hk).1, fun i hi => (hB.cell (p := ⟨b, _, none⟩) hbN).trans ((HC.out k hk).2 i hi)⟩) t hlt
      have hrg := hrow.range
      clear hrow hCL hB
      go_wp2_with (first | (refine wpList_load_row' rfl 88 (.tmp 40) rfl b (off + t * 20) rfl (rowA G t) _ hrg Try.underlying88 rfl (by kernel_rfl) ?_) | (refine wpList_store_new (w := wr) rfl 88 (.tmp 6) (.tmp 41) rfl _ (rowA G t) rfl rfl (by kernel_rfl) rfl (rowA_one G t) ?_) | (refine wpList_load_new (w := wr) rfl 88 (.tmp 6) rfl (rowA G t) 4 87 rfl Try.underlying88 (by kernel_rfl) ?_))
      clear hrg
      refine wp_named fun Wr hWr => ?_
      have hCLr : CL Wr N C d1 d2 d3 d G.n (.slice (some ⟨b, off, none⟩) G.n cap) (lp (clsF G) cls0 (4 * t)) := hWr ▸ HK.out.1.below (by exact (Below.refl _ _).alloc (Nat.le_refl _) _)
      have hBr : Below N w Wr := hWr ▸ HK.out.2.alloc (by omega) _
      have hsr : W2.heap.size ≤ Wr.heap.size := by rw [hWr]; simp; omega
      have HR := Lib.hid (And.intro hCLr hBr)
      clear hWr hCLr hBr HK
      go_loopw [43] (fun i wi => ∃ f : Nat, f ≤ 4 ∧ i = .int .i64 f ∧ CL wi N C d1 d2 d3 d G.n (.slice (some ⟨b, off, none⟩) G.n cap) (lp (clsF G) cls0 (4 * t + f)) ∧ Below N w wi ∧ W2.heap.size ≤ wi.heap.size) (fun i _ => 4 - (intOf i).toNat)
      case atStart => exact ⟨0, by omega, rfl, HR.out.1, HR.out.2, hsr⟩
      case round =>
        clear HR hsr hsz Wr
        obtain ⟨f, hf, rfl, hCL, hB, hsz⟩ := hrel
        have HK := Lib.hid (And.intro hCL hB)
        clear hCL hB
        rcases Nat.lt_or_ge f 4 with hlf | hgf
        · have hix := fun w => row_index G t f hlf w
          unfold faceA at hix
          have hk : 4 * t + f < 4 * G.n := by omega
          by_cases hneg : G.tet (4 * t + f) < 0
          · have HE := Lib.hid (show clsF G (4 * t + f) (lp (clsF G) cls0 (4 * t + f)) = lp (clsF G) cls0 (4 * t + f) by simp [clsF, hneg])
            generalize G.tet (4 * t + f) = T at *
            go_wp2
            go_roundw
            case rel =>
              refine ⟨f + 1, by omega, rfl, ?_, ?_, ?_⟩
              · show CL _ _ _ _ _ _ _ _ _ (clsF G (4 * t + f) (lp (clsF G) cls0 (4 * t + f)))
                rw [HE.out]
                exact HK.out.1.below ((Below.refl _ _).alloc (Nat.le_refl _) _)
              · exact HK.out.2.alloc (by omega) _
              · simp; omega
            case measure => simp [intOf]; omega
          · obtain ⟨e1, e2, e3⟩ := ok_face HOK.out hk hneg
            rw [e1, (e3 0 (by omega)).1, (e3 1 (by omega)).1, (e3 2 (by omega)).1, (e3 3 (by omega)).1] at hix
            have E1 := Lib.hid e1; have E3 := Lib.hid e3; have E2 := Lib.hid e2
            have HNEG := Lib.hid hneg
            clear e1 e2 e3 hneg
            generalize hT : ((G.T (4 * t + f) : Nat) : Int) = T' at *
            have hT0 : 0 ≤ T' := by omega
            have HT := Lib.hid hT
            clear hT
            go_wp2_with fail
            clear hix
            refine wp_named fun W3 hW3 => ?_
            have hFC : FC W3 N C d1 d2 d3 d (.slice (some ⟨b, off, none⟩) G.n cap) wr.heap.size (wr.heap.size + 1) G (4 * t + f) (lp (clsF G) cls0 (4 * t + f)) := by
              have hT := HT.out
              have h := HK.out.1
              subst hW3
              refine ⟨h.below (((Below.refl _ _).alloc (Nat.le_refl _) _).alloc (by simp) _), by simp [go_sem, hT], fun i hi => ?_, h.u1.lt.2, h.u2.lt.2, h.u3.lt.2, h.u4.lt.2, by omega⟩
              match i, hi with
              | 0, _ => simp [go_sem]
              | 1, _ => simp [go_sem]
              | 2, _ => simp [go_sem]
              | 3, _ => simp [go_sem]
            have hB3 : Below N w W3 := by rw [hW3]; exact (HK.out.2.alloc (by omega) _).alloc (by simp; omega) _
            have hs3 : W2.heap.size ≤ W3.heap.size := by rw [hW3]; simp; omega
            clear hW3
            generalize hA8 : wr.heap.size = A8 at *
            generalize hA9 : A8 + 1 = A9 at *
            have c8 := hFC.c8
            have c9 := hFC.c9 f hlf
            have e2 := E2.out
            have e3 := (E3.out f hlf).2
            have H3 := Lib.hid (And.intro hFC (And.intro hB3 hs3))
            clear hFC hB3 HK hA8 hA9
            have hkm : (4 * t + f) % 4 = f := by omega
            have hkd : (4 * t + f) / 4 = t := by omega
            generalize hkk : 4 * t + f = k at *
            generalize hTN : G.T k = T at *
            generalize hpf : G.P k f = pf at *
            have HPF := Lib.hid (And.intro hTN hpf)
            clear hTN hpf
            obtain ⟨x1, hx1⟩ : ∃ x, x = 4 * t := ⟨_, rfl⟩
            obtain ⟨y1, hy1⟩ : ∃ x, x = 4 * T := ⟨_, rfl⟩
            obtain ⟨y2, hy2⟩ : ∃ x, x = y1 + pf := ⟨_, rfl⟩
            have q1 : IntKind.i64.wrap (4 * (t : Int)) = (x1 : Int) := by rw [IntWalk.i64_in _ (by omega)]; omega
            have q2 : IntKind.i64.wrap ((x1 : Int) + (f : Int)) = (k : Int) := by rw [IntWalk.i64_in _ (by omega)]; omega
            have q3 : IntKind.i64.wrap (4 * (T : Int)) = (y1 : Int) := by rw [IntWalk.i64_in _ (by omega)]; omega
            have q4 : IntKind.i64.wrap ((y1 : Int) + (pf : Int)) = (y2 : Int) := by rw [IntWalk.i64_in _ (by omega)]; omega
            have hy2n : y2 < 4 * G.n := by omega
            have HX := Lib.hid (And.intro hx1 (And.intro hy1 hy2)); clear hx1 hy1 hy2
            refine region_tail 15 (by kernel_rfl) (by kernel_rfl) ?_
            simp only [List.take_succ_cons, List.take_zero, List.drop_succ_cons, List.drop_zero]
            repeat (refine wpStill_step (fun K hK => ?_); go_simp; refine hK _ ?_; clear hK K)
            refine wpStill_nil ?_
            go_wp2_with fail
            have hF3 := H3.out.1.below (below_dr (Below.refl _ _))
            refine (join_walk C 4 d (4 * G.n) (lp (clsF G) cls0 k).r4 k y2 hk hy2n (by omega) _ hF3.cl.u4).mono ?_
            rintro e W4 ⟨rfl, hu4, hg4⟩
            have hF4 := hF3.c hg4 hF3.lt.2.2.2.1 (hF3.cl.join4 hu4 hg4)
            have hB4 : Below N w W4 := below_grownBy (below_dr H3.out.2.1) hg4 hF3.cl.lo.2.2.2.2 (by have := H3.out.2.2; simp; omega)
            have hs4 : W2.heap.size ≤ W4.heap.size := Nat.le_trans H3.out.2.2 hg4.size
            obtain ⟨S1, hS1⟩ : ∃ S, S = ({ lp (clsF G) cls0 k with r4 := joinR (lp (clsF G) cls0 k).r4 k y2 } : Cls) := ⟨_, rfl⟩
            rw [← hS1] at hF4
            have HS1 := Lib.hid hS1
            have H4 := Lib.hid (And.intro hF4 (And.intro hB4 hs4))
            clear hF3 hu4 hg4 hF4 hB4 hs4 hS1 H3 c8 c9 q1 q2 q3 q4 hy2n
            go_wp2_with fail
            go_loopw [68] (fun i' wi => ∃ i : Nat, i ≤ 4 ∧ i' = .int .i64 i ∧ FC wi N C d1 d2 d3 d (.slice (some ⟨b, off, none⟩) G.n cap) A8 A9 G k (lp (clsI G k) S1 i) ∧ Below N w wi ∧ W2.heap.size ≤ wi.heap.size) (fun i _ => 4 - (intOf i).toNat)
            case atStart => exact ⟨0, by omega, rfl, H4.out.1, H4.out.2.1, H4.out.2.2⟩
            case round =>
              clear H4 W4
              obtain ⟨i, hi, rfl, hF, hBi, hsi⟩ := hrel
              have HK := Lib.hid (And.intro hF (And.intro hBi hsi))
              have hlt8 := hF.lt
              have hA8n : A9 < wr.heap.size := lt_of_cell (hF.c9 0 (by omega))
              clear hF hBi hsi
              rcases Nat.lt_or_ge i 4 with hli | hgi
              · by_cases e : i = f
                · have he := natbeq_true e
                  have HE := Lib.hid (show clsI G k i (lp (clsI G k) S1 i) = lp (clsI G k) S1 i by simp [clsI, e, hkm])
                  clear e
                  go_wp2
                  go_roundw
                  case rel =>
                    refine ⟨i + 1, by omega, rfl, ?_, HK.out.2.1, HK.out.2.2⟩
                    show FC _ _ _ _ _ _ _ _ _ _ _ _ (clsI G k i (lp (clsI G k) S1 i))
                    rw [HE.out]; exact HK.out.1
                  case measure => simp [intOf]; omega
                · have he := natbeq_false e
                  have c8 := HK.out.1.c8
                  have ci := HK.out.1.c9 i hli
                  have e3i := (E3.out i hli).2
                  rw [HPF.out.1] at c8
                  generalize hpi : G.P k i = pi at *
                  obtain ⟨z2, hz2⟩ : ∃ x, x = x1 + i := ⟨_, rfl⟩
                  obtain ⟨y3, hy3⟩ : ∃ x, x = y1 + pi := ⟨_, rfl⟩
                  obtain ⟨hx1, hy1, hy2⟩ := HX.out
                  have q1 : IntKind.i64.wrap (4 * (t : Int)) = (x1 : Int) := by rw [IntWalk.i64_in _ (by omega)]; omega
                  have q2 : IntKind.i64.wrap ((x1 : Int) + (i : Int)) = (z2 : Int) := by rw [IntWalk.i64_in _ (by omega)]; omega
                  have q3 : IntKind.i64.wrap (4 * (T : Int)) = (y1 : Int) := by rw [IntWalk.i64_in _ (by omega)]; omega
                  have q4 : IntKind.i64.wrap ((y1 : Int) + (pi : Int)) = (y3 : Int) := by rw [IntWalk.i64_in _ (by omega)]; omega
                  have hz2n : z2 < 4 * G.n := by omega
                  have hy3n : y3 < 4 * G.n := by omega
                  have HZ := Lib.hid (And.intro hz2 (And.intro hy3 (And.intro hpi e))); clear hz2 hy3 hpi hx1 hy1 hy2 e
                  go_wp2_with fail
                  refine region_tail 15 (by kernel_rfl) (by kernel_rfl) ?_
                  simp only [List.take_succ_cons, List.take_zero, List.drop_succ_cons, List.drop_zero]
                  repeat (refine wpStill_step (fun K hK => ?_); go_simp; refine hK _ ?_; clear hK K)
                  refine wpStill_nil ?_
                  go_wp2_with fail
                  have hF3 := HK.out.1.below (below_dr (Below.refl _ _))
                  refine (join_walk C 1 d1 (4 * G.n) (lp (clsI G k) S1 i).r1 z2 y3 hz2n hy3n (by omega) _ hF3.cl.u1).mono ?_
                  rintro e W4 ⟨rfl, hu4, hg4⟩
                  have hF4 := hF3.c hg4 hF3.lt.1 (hF3.cl.join1 hu4 hg4)
                  have hB4 : Below N w W4 := below_grownBy (below_dr HK.out.2.1) hg4 hF3.cl.lo.2.1 (by have := HK.out.2.2; simp; omega)
                  have hs4 : W2.heap.size ≤ W4.heap.size := Nat.le_trans HK.out.2.2 hg4.size
                  obtain ⟨S2, hS2⟩ : ∃ S, S = ({ lp (clsI G k) S1 i with r1 := joinR (lp (clsI G k) S1 i).r1 z2 y3 } : Cls) := ⟨_, rfl⟩
                  rw [← hS2] at hF4
                  have HS2 := Lib.hid hS2
                  have H4 := Lib.hid (And.intro hF4 (And.intro hB4 hs4))
                  clear hF3 hu4 hg4 hF4 hB4 hs4 hS2 c8 ci q1 q2 q3 q4 hy3n hz2n
                  go_wp2_with fail
                  go_loopw [90] (fun i' wi => ∃ j : Nat, j ≤ 4 ∧ i' = .int .i64 j ∧ FC wi N C d1 d2 d3 d (.slice (some ⟨b, off, none⟩) G.n cap) A8 A9 G k (lp (clsJ G k i) S2 j) ∧ Below N w wi ∧ W2.heap.size ≤ wi.heap.size) (fun i _ => 4 - (intOf i).toNat)
                  case atStart => exact ⟨0, by omega, rfl, H4.out.1, H4.out.2.1, H4.out.2.2⟩
                  case round =>
                    clear H4 W4
                    obtain ⟨j, hj, rfl, hF, hBi, hsi⟩ := hrel
                    have HK2 := Lib.hid (And.intro hF (And.intro hBi hsi))
                    have hA9n : A9 < wr.heap.size := lt_of_cell (hF.c9 0 (by omega))
                    clear hF hBi hsi
                    rcases Nat.lt_or_ge j 4 with hlj | hgj
                    · by_cases ef : j = f
                      · have hef := natbne_false ef
                        have HE := Lib.hid (show clsJ G k i j (lp (clsJ G k i) S2 j) = lp (clsJ G k i) S2 j by simp [clsJ, ef, hkm])
                        clear ef
                        go_wp2
                        go_roundw
                        case rel =>
                          refine ⟨j + 1, by omega, rfl, ?_, HK2.out.2.1, HK2.out.2.2⟩
                          show FC _ _ _ _ _ _ _ _ _ _ _ _ (clsJ G k i j (lp (clsJ G k i) S2 j))
                          rw [HE.out]; exact HK2.out.1
                        case measure => simp [intOf]; omega
                      · have hef := natbne_true ef
                        by_cases ei : j = i
                        · have hei := natbne_false ei
                          have HE := Lib.hid (show clsJ G k i j (lp (clsJ G k i) S2 j) = lp (clsJ G k i) S2 j by simp [clsJ, ei])
                          clear ei ef
                          go_wp2
                          go_roundw
                          case rel =>
                            refine ⟨j + 1, by omega, rfl, ?_, HK2.out.2.1, HK2.out.2.2⟩
                            show FC _ _ _ _ _ _ _ _ _ _ _ _ (clsJ G k i j (lp (clsJ G k i) S2 j))
                            rw [HE.out]; exact HK2.out.1
                          case measure => simp [intOf]; omega
                        · have hei := natbne_true ei
                          have c8 := HK2.out.1.c8
                          have ci := HK2.out.1.c9 i hli
                          have cj := HK2.out.1.c9 j hlj
                          have e3i := (E3.out i hli).2
                          have e3j := (E3.out j hlj).2
                          have hpne := ok_inj HOK.out hk (by have := HNEG.out; omega) i j hli hlj (fun q => ei q.symm)
                          obtain ⟨hE1, hE1n⟩ := edN_eq i j hli hlj (fun q => ei q.symm)
                          obtain ⟨hE2, hE2n⟩ := edN_eq _ _ e3i e3j hpne
                          rw [HPF.out.1] at c8
                          obtain ⟨hz2, hy3, hpi, e⟩ := HZ.out
                          rw [hpi] at ci hE2 hE2n e3i hpne
                          have HES := Lib.hid (show clsJ G k i j (lp (clsJ G k i) S2 j) = { lp (clsJ G k i) S2 j with r2 := joinR (lp (clsJ G k i) S2 j).r2 (16 * t + 4 * i + j) (16 * T + 4 * pi + G.P k j), r3 := joinR (lp (clsJ G k i) S2 j).r3 (6 * t + edN i j) (6 * T + edN pi (G.P k j)) } by rw [clsJ_ne (by rw [hkm]; exact ef) ei, hkd, HPF.out.1, hpi])
                          generalize hpj : G.P k j = pj at *
                          generalize edN i j = g1 at *
                          generalize edN pi pj = g2 at *
                          generalize hS3 : lp (clsJ G k i) S2 j = S3 at *
                          have HS3 := Lib.hid hS3; clear hS3
                          obtain ⟨v1, hv1⟩ : ∃ x, x = 16 * t := ⟨_, rfl⟩
                          obtain ⟨v2, hv2⟩ : ∃ x, x = 4 * i := ⟨_, rfl⟩
                          obtain ⟨v3, hv3⟩ : ∃ x, x = v1 + v2 := ⟨_, rfl⟩
                          obtain ⟨v4, hv4⟩ : ∃ x, x = v3 + j := ⟨_, rfl⟩
                          obtain ⟨u1, hu1⟩ : ∃ x, x = 16 * T := ⟨_, rfl⟩
                          obtain ⟨u2, hu2⟩ : ∃ x, x = 4 * pi := ⟨_, rfl⟩
                          obtain ⟨u3, hu3⟩ : ∃ x, x = u1 + u2 := ⟨_, rfl⟩
                          obtain ⟨u4, hu4⟩ : ∃ x, x = u3 + pj := ⟨_, rfl⟩
                          have q1 : IntKind.i64.wrap (16 * (t : Int)) = (v1 : Int) := by rw [IntWalk.i64_in _ (by omega)]; omega
                          have q2 : IntKind.i64.wrap (4 * (i : Int)) = (v2 : Int) := by rw [IntWalk.i64_in _ (by omega)]; omega
                          have q3 : IntKind.i64.wrap ((v1 : Int) + (v2 : Int)) = (v3 : Int) := by rw [IntWalk.i64_in _ (by omega)]; omega
                          have q4 : IntKind.i64.wrap ((v3 : Int) + (j : Int)) = (v4 : Int) := by rw [IntWalk.i64_in _ (by omega)]; omega
                          have p1 : IntKind.i64.wrap (16 * (T : Int)) = (u1 : Int) := by rw [IntWalk.i64_in _ (by omega)]; omega
                          have p2 : IntKind.i64.wrap (4 * (pi : Int)) = (u2 : Int) := by rw [IntWalk.i64_in _ (by omega)]; omega
                          have p3 : IntKind.i64.wrap ((u1 : Int) + (u2 : Int)) = (u3 : Int) := by rw [IntWalk.i64_in _ (by omega)]; omega
                          have p4 : IntKind.i64.wrap ((u3 : Int) + (pj : Int)) = (u4 : Int) := by rw [IntWalk.i64_in _ (by omega)]; omega
                          have hv4n : v4 < 16 * G.n := by omega
                          have hu4n : u4 < 16 * G.n := by omega
                          have HV := Lib.hid (show v4 = 16 * t + 4 * i + j ∧ u4 = 16 * T + 4 * pi + pj by omega)
                          have HPJ := Lib.hid (And.intro hpi hpj)
                          clear hv1 hv2 hv3 hv4 hu1 hu2 hu3 hu4 hz2 hy3 hpi e hpj hpne
                          have HE1 := Lib.hid hE1; have HE2 := Lib.hid hE2
                          clear hE1 hE2
                          go_wp2_with fail
                          refine region_tail 23 (by kernel_rfl) (by kernel_rfl) ?_
                          simp only [List.take_succ_cons, List.take_zero, List.drop_succ_cons, List.drop_zero]
                          repeat (refine wpStill_step (fun K hK => ?_); go_simp; refine hK _ ?_; clear hK K)
                          refine wpStill_nil ?_
                          go_wp2_with fail
                          have hF3 := HK2.out.1.below (below_dr (Below.refl _ _))
                          refine (join_walk C 2 d2 (16 * G.n) S3.r2 v4 u4 hv4n hu4n (by omega) _ hF3.cl.u2).mono ?_
                          rintro e W4 ⟨rfl, hu4, hg4⟩
                          have hF4 := hF3.c hg4 hF3.lt.2.1 (hF3.cl.join2 hu4 hg4)
                          have hB4 : Below N w W4 := below_grownBy (below_dr HK2.out.2.1) hg4 hF3.cl.lo.2.2.1 (by have := HK2.out.2.2; simp; omega)
                          have hs4 : W2.heap.size ≤ W4.heap.size := Nat.le_trans HK2.out.2.2 hg4.size
                          have c8 := hF4.c8
                          have ci := hF4.c9 i hli
                          have cj := hF4.c9 j hlj
                          have hA9n : A9 < W4.heap.size := lt_of_cell ci
                          clear q1 q2 q3 q4 p1 p2 p3 p4 hv4n hu4n hF3 hu4 hg4
                          rw [HPF.out.1] at c8
                          rw [HPJ.out.1] at ci
                          rw [HPJ.out.2] at cj
                          obtain ⟨a1, ha1⟩ : ∃ x, x = 6 * t := ⟨_, rfl⟩
                          obtain ⟨a2, ha2⟩ : ∃ x, x = a1 + g1 := ⟨_, rfl⟩
                          obtain ⟨b1, hb1⟩ : ∃ x, x = 6 * T := ⟨_, rfl⟩
                          obtain ⟨b2, hb2⟩ : ∃ x, x = b1 + g2 := ⟨_, rfl⟩
                          have q1 : IntKind.i64.wrap (6 * (t : Int)) = (a1 : Int) := by rw [IntWalk.i64_in _ (by omega)]; omega
                          have q2 : IntKind.i64.wrap ((a1 : Int) + (g1 : Int)) = (a2 : Int) := by rw [IntWalk.i64_in _ (by omega)]; omega
                          have q3 : IntKind.i64.wrap (6 * (T : Int)) = (b1 : Int) := by rw [IntWalk.i64_in _ (by omega)]; omega
                          have q4 : IntKind.i64.wrap ((b1 : Int) + (g2 : Int)) = (b2 : Int) := by rw [IntWalk.i64_in _ (by omega)]; omega
                          have ha2n : a2 < 6 * G.n := by omega
                          have hb2n : b2 < 6 * G.n := by omega
                          have HAB := Lib.hid (show a2 = 6 * t + g1 ∧ b2 = 6 * T + g2 by omega)
                          clear ha1 ha2 hb1 hb2
                          have HF4 := Lib.hid (And.intro hF4 (And.intro hB4 hs4))
                          have l3 := hF4.lt.2.2.1
                          clear hF4 hB4 hs4
                          go_wp2_with fail
                          go_region_held3 (fun w' => w'.cell? ⟨A8, 0, none⟩ = some (.int .i64 (T : Int)) ∧ w'.cell? ⟨A9, i, none⟩ = some (.int .i64 (pi : Int)) ∧ w'.cell? ⟨A9, j, none⟩ = some (.int .i64 (pj : Int)) ∧ A9 < w'.heap.size)
                            (first
                              | exact ⟨c8, ci, cj, hA9n⟩
                              | (go_split_ands; exact ⟨(hb.cell (p := ⟨A8, 0, none⟩) (by show A8 < _; omega)).trans (by assumption), (hb.cell (p := ⟨A9, i, none⟩) (by show A9 < _; omega)).trans (by assumption), (hb.cell (p := ⟨A9, j, none⟩) (by show A9 < _; omega)).trans (by assumption), Nat.lt_of_lt_of_le (by assumption) hb.size⟩)
                              | (go_split_ands; exact ⟨hg.cell (a := ⟨A8, 0, none⟩) (by assumption) (by simp; omega), hg.cell (a := ⟨A9, i, none⟩) (by assumption) (by simp; omega), hg.cell (a := ⟨A9, j, none⟩) (by assumption) (by simp; omega), Nat.lt_of_lt_of_le (by assumption) hg.size⟩))
                            (first
                              | (go_at_call 104; with_reducible refine (Edge_walk (i : Int) (j : Int) _).mono ?_; rintro e w1 ⟨he1, hb⟩; have HB1 := Lib.hid hb; rw [HE1.out] at he1; subst he1)
                              | (go_at_call 104; with_reducible refine (Edge_walk (pi : Int) (pj : Int) _).mono ?_; rintro e w2 ⟨he2, hb⟩; have HB2 := Lib.hid hb; rw [HE2.out] at he2; subst he2)
                              | (go_at_call 103; with_reducible refine (join_walk C 3 d3 (6 * G.n) S3.r3 a2 b2 ha2n hb2n (by omega) _ (((HF4.out.1.below (below_dr (Below.refl _ _))).below HB1.out).below HB2.out).cl.u3).mono ?_; rintro e w3 ⟨rfl, hu, hg⟩))
                          have h3 := (((HF4.out.1.below (below_dr (Below.refl _ _))).below HB1.out).below HB2.out)
                          have h4 := h3.c hg l3 (h3.cl.join3 hu hg)
                          have hB5 : Below N w w3 := below_grownBy (((below_dr HF4.out.2.1).trans (HB1.out.mono (by have := HF4.out.2.2; simp; omega))).trans (HB2.out.mono (by have := HF4.out.2.2; have := HB1.out.size; simp at this; omega))) hg h3.cl.lo.2.2.2.1 (by have := HF4.out.2.2; have := HB1.out.size; have := HB2.out.size; simp at *; omega)
                          have hs5 : W2.heap.size ≤ w3.heap.size := Nat.le_trans HF4.out.2.2 (Nat.le_trans HB1.out.size (Nat.le_trans HB2.out.size hg.size))
                          have H5 := Lib.hid (And.intro h4 (And.intro hB5 hs5))
                          clear h3 h4 hB5 hs5 hu hg
                          go_wp2
                          go_roundw
                          case rel =>
                            refine ⟨j + 1, by omega, rfl, ?_, H5.out.2.1, H5.out.2.2⟩
                            show FC _ _ _ _ _ _ _ _ _ _ _ _ (clsJ G k i j (lp (clsJ G k i) S2 j))
                            rw [HS3.out, HES.out, ← HV.out.1, ← HV.out.2, ← HAB.out.1, ← HAB.out.2]
                            exact H5.out.1
                          case measure => simp [intOf]; omega
                    · obtain rfl : j = 4 := by omega
                      go_wp2
                      go_roundw
                      case rel =>
                        refine ⟨i + 1, by omega, rfl, ?_, HK2.out.2.1, HK2.out.2.2⟩
                        have h := HK2.out.1
                        obtain ⟨hz2, hy3, hpi, e⟩ := HZ.out
                        obtain ⟨hx1, hy1, hy2⟩ := HX.out
                        have e2 : clsI G k i (lp (clsI G k) S1 i) = lp (clsJ G k i) S2 4 := by
                          rw [clsI_ne (by rw [hkm]; exact e), hkd, HS2.out, hz2, hy3, hx1, hy1, HPF.out.1, hpi]
                        show FC _ _ _ _ _ _ _ _ _ _ _ _ (clsI G k i (lp (clsI G k) S1 i))
                        rw [e2]; exact h
                      case measure => simp [intOf]; omega
              · obtain rfl : i = 4 := by omega
                go_wp2
                go_roundw
                case rel =>
                  refine ⟨f + 1, by omega, rfl, ?_, HK.out.2.1, HK.out.2.2⟩
                  have h := HK.out.1.cl
                  obtain ⟨hx1, hy1, hy2⟩ := HX.out
                  have e2 : clsF G k (lp (clsF G) cls0 k) = lp (clsI G k) S1 4 := by
                    rw [clsF_ge (by have := HNEG.out; omega), hkm, HPF.out.1, HPF.out.2, ← hy1, ← hy2, HS1.out]
                  have hk1 : 4 * t + (f + 1) = k + 1 := by omega
                  rw [hk1]
                  show CL _ _ _ _ _ _ _ _ _ (clsF G k (lp (clsF G) cls0 k))
                  rw [e2]; exact h
                case measure => simp [intOf]; omega
        · obtain rfl : f = 4 := by omega
          go_wp2
          go_roundw
          case rel => exact ⟨t + 1, by omega, rfl, HK.out.1, HK.out.2, hsz⟩
          case measure => simp [intOf]; omega
    · obtain rfl : t = G.n := by omega
      go_wp2
      go_ret
      exact ⟨C, d1, d2, d3, d, rfl, by rw [hN]; exact HK.out.1, by rw [hN]; exact HK.out.2⟩
end Go.Proofs.Ytlckpgahijlmoaa
