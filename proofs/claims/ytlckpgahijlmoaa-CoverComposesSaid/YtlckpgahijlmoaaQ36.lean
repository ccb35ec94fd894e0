/- sane returns true, and turns nothing. -/
import Derived.Test.YtlckpgahijlmoaaQ35
import Derived.Test.YtlckpgahijlmoaaQ32
import Derived.Test.YtlckpgahijlmoaaQ33
import Derived.Test.YtlckpgahijlmoaaQ26
/- R11.first: whether a face is the first one of its class. -/
namespace Go.Proofs.Ytlckpgahijlmoaa
open Go.RowKit Go.Shelf

set_option maxRecDepth 100000 in
set_option maxHeartbeats 2000000 in
theorem rfirst_walk {G : Gl} (hok : checkB G = true) (t f : Nat) (ht : t < G.n) (hf : f < 4) (v : Value) (w : World) (hG : GlAt w.heap.size w v G) :
    Calls Try.prog 54 #[.agg #[v], .int .i64 (t : Int), .int .i64 (f : Int)] w fun e w' => e = .returned (.bool (decide (isF G (4 * t + f)))) ∧ Below w.heap.size w w' := by
  have hn := ok_size hok
  have HOK := Lib.hid hok
  obtain ⟨a, b, off, cap, rfl, hga, hgc⟩ := hG
  obtain ⟨rfl, hb0⟩ := hga (by omega)
  obtain ⟨N, hN⟩ : ∃ N, N = w.heap.size := ⟨_, rfl⟩
  obtain ⟨fb0, fb⟩ := hgc (4 * t + f) (by omega)
  rw [show off + 5 * (4 * t + f) = off + t * 20 + f * 5 by omega] at fb0 fb
  obtain ⟨T, hT⟩ : ∃ T, T = G.tet (4 * t + f) := ⟨_, rfl⟩
  obtain ⟨pp, hpp⟩ : ∃ pp, pp = G.pm (4 * t + f) := ⟨_, rfl⟩
  rw [← hT] at fb0
  rw [← hpp] at fb
  have fb1 := fb 0 (by omega)
  have fb2 := fb 1 (by omega)
  have fb3 := fb 2 (by omega)
  have fb4 := fb 3 (by omega)
  rw [Nat.add_zero] at fb1
  have p0 := cell_al fb0
  have p1 := cell_al fb1
  have p2 := cell_al fb2
  have p3 := cell_al fb3
  have p4 := cell_al fb4
  have t0 : 0 ≤ (t : Int) := by omega
  have tn : (t : Int) < (G.n : Int) := by omega
  have f0 : 0 ≤ (f : Int) := by omega
  have f4 : (f : Int) < 4 := by omega
  have HT := Lib.hid (And.intro hT hpp)
  clear hgc hga fb fb0 fb1 fb2 fb3 fb4 hok hT hpp
  go_enter Try.func54, Try.ntmps54
  go_wp2
  refine wp_named fun W1 hW => ?_
  rw [← hN]
  have h1 : Below N w W1 ∧ W1.cell? ⟨N + 1, 0, none⟩ = some (.int .i64 T) ∧ ∀ i, i < 4 → W1.cell? ⟨N + 1, 1 + i, none⟩ = some (.int .i64 (pp i)) := by
    rw [hW, hN]
    refine ⟨by (repeat' (first | assumption | exact Below.refl _ _ | refine below_then ?_ (by assumption) | refine below_al ?_ _ | refine below_dr ?_ | refine below_sc ?_ (by simp <;> omega) _)), by simp [go_sem], fun i hi => ?_⟩
    rcases (show i = 0 ∨ i = 1 ∨ i = 2 ∨ i = 3 by omega) with rfl | rfl | rfl | rfl <;> simp [go_sem]
  obtain ⟨hb, c0, ci⟩ := h1
  have HB := Lib.hid (And.intro hb hN)
  clear hW hb hN p0 p1 p2 p3 p4
  rcases Int.lt_or_le T 0 with hT0 | hT0
  · have q1 : decide (T < 0) = true := by simpa using hT0
    have d0 : W1.drew.cell? ⟨N + 1, 0, none⟩ = some (.int .i64 T) := c0
    have HD := Lib.hid (show decide (isF G (4 * t + f)) = true by rw [decide_eq_true_eq]; left; rw [← HT.out.1]; exact hT0)
    clear ci
    refine region_tail2 18 (by kernel_rfl) (by kernel_rfl) (fun Q2 hQ2 => ?_)
    repeat (refine wpSt_step (fun K hK => ?_); go_simp; refine hK _ ?_; clear hK K)
    refine wpSt_nil (hQ2 _ ?_)
    clear hQ2 Q2
    go_wp2
    go_ret
    exact ⟨by rw [HD.out]; rfl, by rw [← HB.out.2]; exact below_dr HB.out.1⟩
  · have q1 : decide (T < 0) = false := by simp; omega
    have hk : 4 * t + f < 4 * G.n := by omega
    have hnn : ¬ G.tet (4 * t + f) < 0 := by rw [← HT.out.1]; omega
    obtain ⟨e1, e2, e3⟩ := ok_face HOK.out hk hnn
    obtain ⟨x, hx⟩ : ∃ x : Nat, T = (x : Int) ∧ x < G.n := ⟨G.T (4 * t + f), by rw [HT.out.1, e1], e2⟩
    obtain ⟨rfl, hxn⟩ := hx
    obtain ⟨y, hy⟩ : ∃ y : Nat, pp f = (y : Int) ∧ y < 4 := ⟨G.P (4 * t + f) f, by rw [HT.out.2]; exact (e3 f hf).1, (e3 f hf).2⟩
    obtain ⟨hy, hy4⟩ := hy
    have cf := ci f hf
    rw [hy] at cf
    have d0 : W1.drew.cell? ⟨N + 1, 0, none⟩ = some (.int .i64 (x : Int)) := c0
    have df : W1.drew.cell? ⟨N + 1, 1 + f, none⟩ = some (.int .i64 (y : Int)) := cf
    have m1 : IntKind.i64.wrap (4 * (t : Int)) = ((4 * t : Nat) : Int) := by rw [IntWalk.i64_in _ (by omega)]; push_cast; rfl
    have m2 : IntKind.i64.wrap (((4 * t : Nat) : Int) + (f : Int)) = ((4 * t + f : Nat) : Int) := by rw [IntWalk.i64_in _ (by omega)]; push_cast; rfl
    have m3 : IntKind.i64.wrap (4 * (x : Int)) = ((4 * x : Nat) : Int) := by rw [IntWalk.i64_in _ (by omega)]; push_cast; rfl
    have m4 : IntKind.i64.wrap (((4 * x : Nat) : Int) + (y : Int)) = ((4 * x + y : Nat) : Int) := by rw [IntWalk.i64_in _ (by omega)]; push_cast; rfl
    obtain ⟨A, hA⟩ : ∃ A, A = 4 * t := ⟨_, rfl⟩
    obtain ⟨B, hB⟩ : ∃ B, B = 4 * t + f := ⟨_, rfl⟩
    obtain ⟨C, hC⟩ : ∃ C, C = 4 * x := ⟨_, rfl⟩
    obtain ⟨D, hD⟩ : ∃ D, D = 4 * x + y := ⟨_, rfl⟩
    have htb : tb G (4 * t + f) = D := by
      unfold tb
      rw [show (4 * t + f) % 4 = f by omega]
      have h1 : G.T (4 * t + f) = x := by
        have := HT.out.1; unfold Gl.T; rw [← this]; simp
      have h2 : G.P (4 * t + f) f = y := by
        unfold Gl.P; rw [← HT.out.2, hy]; simp
      rw [h1, h2, hD]
    have hdec : decide (isF G (4 * t + f)) = decide ((B : Int) < (D : Int)) := by
      have : isF G (4 * t + f) ↔ B < D := by
        unfold isF
        rw [htb, ← hB]
        rw [← hB] at hnn
        simp only [hnn, false_or]
      by_cases q : B < D
      · rw [decide_eq_true (this.2 q), decide_eq_true (by omega)]
      · rw [decide_eq_false (fun z => q (this.1 z)), decide_eq_false (by omega)]
    rw [← hB] at m2
    rw [← hA] at m1 m2
    rw [← hD] at m4
    rw [← hC] at m3 m4
    have HD := Lib.hid hdec
    clear ci hdec htb hA hB hC hD hy e1 e2 e3 hnn
    refine region_tail2 18 (by kernel_rfl) (by kernel_rfl) (fun Q2 hQ2 => ?_)
    repeat (refine wpSt_step (fun K hK => ?_); go_simp; refine hK _ ?_; clear hK K)
    refine wpSt_nil (hQ2 _ ?_)
    clear hQ2 Q2
    go_wp2
    go_ret
    exact ⟨by rw [HD.out]; simp, by rw [← HB.out.2]; exact below_dr HB.out.1⟩
end Go.Proofs.Ytlckpgahijlmoaa
/- cover's Compose: the lists under way. -/
namespace Go.Proofs.Ytlckpgahijlmoaa
open Go.RowKit Go.Shelf Go.Maps

/-- asked's answer, in one shape -/
theorem AskedAns.one {G : Gl} {v : Value} {sh : Int} {pv : Value} {np : Nat} {len : Nat → Nat} {fp : Nat → Nat → Int} {e : Ending} {w' : World} (h : AskedAns G v sh pv np len fp e w') :
    ∃ pt c, e = .returned (.tuple #[pt, .int .i64 c]) ∧ (c ≠ 0 ∨ (c = 0 ∧ checkB G = true ∧ CovOK G sh np len fp ∧ ∃ Cv B' X mb bv vv ev tv lv dB rB, pt = .pointer (some ⟨Cv, 0, none⟩) ∧ CV w' w'.heap.size Cv B' X mb v pv bv G vv ev tv lv dB rB sh.toNat fp (fun k => invP (fp k) sh.toNat))) := by
  rcases h.out with ⟨c, h1, h2, _⟩ | ⟨Cv, B', X, mb, bv, vv, ev, tv, lv, dB, rB, h1, _, h3, h4, h5⟩
  · exact ⟨_, c, h2, .inl h1⟩
  · exact ⟨_, 0, h1, .inr ⟨rfl, h3, h4, Cv, B', X, mb, bv, vv, ev, tv, lv, dB, rB, rfl, h5⟩⟩

/-- a covering's cells at D, its lists of S numbers each under way -/
structure CZ (W0 W : World) (D S k : Nat) (uv : Value) (xs : List Value) : Prop where
  own : W.ownsRow (D + 1) 35 1 uv k xs
  row : ∀ j, j < k → ∃ d f, xs[j]? = some (.slice (some ⟨d, 0, none⟩) S S) ∧ D < d ∧ uv.ownBlock ≠ some d ∧ IntRow W d S f
  d0 : W.cell? ⟨D, 0, none⟩ = some (.int .i64 (S : Int))
  d1 : W.cell? ⟨D, 1, none⟩ = some uv
  f1 : W.frozen? ⟨D, 1, none⟩ = false
  bel : Below D W0 W
theorem CZ.kept {W0 W W' : World} {D S k : Nat} {uv : Value} {xs : List Value} (h : CZ W0 W D S k uv xs) (hg : W.grownBy W' none) : CZ W0 W' D S k uv xs := by
  refine ⟨h.own.kept hg (by cases uv.ownBlock <;> simp), fun j hj => ?_, hg.cell h.d0 (by simp), hg.cell h.d1 (by simp), (hg.frozen_far ⟨D, 1, none⟩ (lt_of_cell h.d1) (by simp)).trans h.f1, h.bel.grown hg (by have := lt_of_cell h.d0; simp only at this; omega) (fun r e => by cases e)⟩
  obtain ⟨d, f, e1, e2, e3, e4⟩ := h.row j hj
  exact ⟨d, f, e1, e2, e3, rowIs_kept e4 hg (by simp)⟩
theorem CZ.ne {W0 W : World} {D S k : Nat} {uv : Value} {xs : List Value} (h : CZ W0 W D S k uv xs) : some D ≠ uv.ownBlock := fun e => by
  have := (h.own.lt D e.symm).1; omega
theorem CZ.push {W0 W W2 w2 : World} {D S k d g gc : Nat} {uv : Value} {xs : List Value} {f : Nat → Int} (h : CZ W0 W D S k uv xs) (hg : W.grownBy W2 none) (hd : W.heap.size ≤ d) (hrow : IntRow W2 d S f)
    (hown : w2.ownsRow (D + 1) 35 1 (.slice (some ⟨g, 0, none⟩) (k + 1) gc) (k + 1) (xs ++ [.slice (some ⟨d, 0, none⟩) S S])) (hgrow : W2.grownBy w2 uv.ownBlock) (hat : uv.ownBlock = some g ∨ g = W2.heap.size) :
    CZ W0 (w2.setCell ⟨D, 1, none⟩ (.slice (some ⟨g, 0, none⟩) (k + 1) gc)) D S (k + 1) (.slice (some ⟨g, 0, none⟩) (k + 1) gc) (xs ++ [.slice (some ⟨d, 0, none⟩) S S]) := by
  have h1 := h.kept hg
  have hDl := lt_of_cell h.d0
  simp only at hDl
  have hxl := h.own.1
  have hs2 := hg.size
  have hsc := grownBy_setCell w2 D 1 (.slice (some ⟨g, 0, none⟩) (k + 1) gc)
  have hob : ∀ j, uv.ownBlock = some j → D + 1 ≤ j ∧ j < W.heap.size := fun j hj => h.own.lt j hj
  have hgD : g ≠ D := fun e => by
    rcases hat with q | q
    · have := (hob g q).1; omega
    · omega
  refine ⟨hown.kept hsc (.inr (by simp only [Value.ownBlock, ne_eq, Option.some.injEq]; exact hgD)), fun j hj => ?_, ?_, World.cell?_setCell_same _ _ _ (hgrow.cell h1.d1 h.ne), ?_, ?_⟩
  · by_cases e : j = k
    · subst e
      refine ⟨d, f, by rw [List.getElem?_append_right (by omega), show j - xs.length = 0 by omega]; rfl, by omega, ?_, ?_⟩
      · have hdl := hrow.lt
        simp only [Value.ownBlock, ne_eq, Option.some.injEq]
        intro q
        rcases hat with z | z
        · subst q; have := (hob _ z).2; omega
        · omega
      · exact rowIs_kept (rowIs_kept hrow hgrow (fun q => by have := (hob d q.symm).2; omega)) hsc (by simp; omega)
    · obtain ⟨d', f', e1, e2, e3, e4⟩ := h1.row j (by omega)
      obtain ⟨d2, f2, q1, q2, q3, q4⟩ := h.row j (by omega)
      have hdd : d2 = d' := by rw [e1] at q1; injection q1 with q1; injection q1 with q1; injection q1 with q1; injection q1 with q1; exact q1.symm
      refine ⟨d', f', by rw [List.getElem?_append_left (by omega)]; exact e1, e2, ?_, ?_⟩
      · simp only [Value.ownBlock, ne_eq, Option.some.injEq]
        intro q
        rcases hat with z | z
        · subst q; exact e3 z
        · have := q4.lt; omega
      · exact rowIs_kept (rowIs_kept e4 hgrow (fun q => e3 q.symm)) hsc (by simp; omega)
  · exact (World.cell?_setCell_other (a := ⟨D, 1, none⟩) (b := ⟨D, 0, none⟩) _ _ (by simp)).trans (hgrow.cell h1.d0 h.ne)
  · rw [World.frozen?_setCell]; exact (hgrow.frozen_far ⟨D, 1, none⟩ (lt_of_cell h1.d1) h.ne).trans h1.f1
  · exact (h1.bel.grown hgrow (by omega) (fun r e => by have := (hob r e).1; omega)).setCell (by show D ≤ D; omega) _
/-- a number is stored into a list -/
theorem CZ.store {W0 W : World} {D S k j d i : Nat} {uv : Value} {xs : List Value} (h : CZ W0 W D S k uv xs) (hj : j < k) (hx : xs[j]? = some (.slice (some ⟨d, 0, none⟩) S S)) (x : Int) : CZ W0 (W.setCell ⟨d, i, none⟩ (.int .i64 x)) D S k uv xs := by
  obtain ⟨d', f', e1, e2, e3, e4⟩ := h.row j hj
  obtain rfl : d = d' := by rw [hx] at e1; injection e1 with q1; injection q1 with q1; injection q1 with q1; injection q1 with q1
  have hsc := grownBy_setCell W d i (.int .i64 x)
  have hne : some D ≠ some d := by simp; omega
  refine ⟨h.own.kept hsc (.inr e3), fun l hl => ?_, hsc.cell h.d0 hne, hsc.cell h.d1 hne, (hsc.frozen_far ⟨D, 1, none⟩ (lt_of_cell h.d1) hne).trans h.f1, h.bel.setCell (by show D ≤ d; omega) _⟩
  obtain ⟨d2, f2, q1, q2, q3, q4⟩ := h.row l hl
  by_cases e : d2 = d
  · subst e
    exact ⟨d2, _, q1, q2, q3, (q4.set i _).congr (g := fun a => Value.int .i64 (if a = i then x else f2 a)) (fun a _ => by by_cases e : a = i <;> simp [e])⟩
  · exact ⟨d2, f2, q1, q2, q3, rowIs_kept q4 hsc (by simp; omega)⟩
/-- the blocks of the lists lie below R -/
structure CZH (R : Nat) (uv : Value) (xs : List Value) (S : Nat) : Prop where
  own : ∀ b, uv.ownBlock = some b → b < R
  row : ∀ (j d : Nat), xs[j]? = some (Value.slice (some ⟨d, 0, none⟩) S S) → d < R
theorem CZ.high {W0 W : World} {D S k : Nat} {uv : Value} {xs : List Value} (h : CZ W0 W D S k uv xs) : CZH W.heap.size uv xs S :=
  ⟨fun b hb => (h.own.lt b hb).2, fun j d hx => by
    have hl := (List.getElem?_eq_some_iff.1 hx).1
    rw [h.own.1] at hl
    obtain ⟨d', f', e1, _, _, e4⟩ := h.row j (by omega)
    obtain rfl : d = d' := by rw [hx] at e1; injection e1 with q1; injection q1 with q1; injection q1 with q1; injection q1 with q1
    exact e4.lt⟩
theorem CZ.keptR {W0 W W' : World} {D S k R : Nat} {uv : Value} {xs : List Value} (h : CZ W0 W D S k uv xs) (hh : CZH R uv xs S) (hD : D < R) (hg : W.grownBy W' (some R)) : CZ W0 W' D S k uv xs := by
  have hne : some D ≠ some R := by simp; omega
  refine ⟨h.own.kept hg (.inr (fun e => by have := hh.own _ e; omega)), fun j hj => ?_, hg.cell h.d0 hne, hg.cell h.d1 hne, (hg.frozen_far ⟨D, 1, none⟩ (lt_of_cell h.d1) hne).trans h.f1, h.bel.grown hg (by have := lt_of_cell h.d0; simp only at this; omega) (fun r e => by cases e; omega)⟩
  obtain ⟨d, f, e1, e2, e3, e4⟩ := h.row j hj
  exact ⟨d, f, e1, e2, e3, rowIs_kept e4 hg (by have := hh.row _ _ e1; simp; omega)⟩
/-- the cell of a list -/
theorem CZ.at {W0 W : World} {D S k j : Nat} {uv : Value} {xs : List Value} (h : CZ W0 W D S k uv xs) (hj : j < k) : ∃ g gc d f, uv = .slice (some ⟨g, 0, none⟩) k gc ∧ W.cell? ⟨g, j, none⟩ = some (.slice (some ⟨d, 0, none⟩) S S) ∧ xs[j]? = some (.slice (some ⟨d, 0, none⟩) S S) ∧ D < d ∧ IntRow W d S f := by
  obtain ⟨d, f, e1, e2, e3, e4⟩ := h.row j hj
  obtain ⟨g, gc, hv, _⟩ := h.own.form (by omega)
  subst hv
  refine ⟨g, gc, d, f, rfl, ?_, e1, e2, e4⟩
  have := h.own.cells (g := g) rfl j _ e1
  rwa [Addr.add_mid, Nat.zero_add] at this
/-- inside a round of the range: the lists, the range under way, the place at A -/
structure ZL (W0 W : World) (D S k R A mb nn cnt : Nat) (uv : Value) (xs : List Value) (dd : Nat × Nat → Option Nat) (left : Nat × Nat → Bool) (t f : Nat) : Prop where
  z : CZ W0 W D S k uv xs
  m : MapR W okp kp vi mb R nn dd left cnt
  a0 : W.cell? ⟨A, 0, none⟩ = some (.int .i64 (t : Int))
  a1 : W.cell? ⟨A, 1, none⟩ = some (.int .i64 (f : Int))
theorem ZL.kept {W0 W W' : World} {D S k R A mb nn cnt : Nat} {uv : Value} {xs : List Value} {dd : Nat × Nat → Option Nat} {left : Nat × Nat → Bool} {t f : Nat} (h : ZL W0 W D S k R A mb nn cnt uv xs dd left t f) (hg : W.grownBy W' none) : ZL W0 W' D S k R A mb nn cnt uv xs dd left t f :=
  ⟨h.z.kept hg, h.m.kept hg (by simp) (by simp), hg.cell h.a0 (by simp), hg.cell h.a1 (by simp)⟩
theorem ZL.store {W0 W : World} {D S k R A mb nn cnt : Nat} {uv : Value} {xs : List Value} {dd : Nat × Nat → Option Nat} {left : Nat × Nat → Bool} {t f j d i : Nat} (h : ZL W0 W D S k R A mb nn cnt uv xs dd left t f) (hh : CZH R uv xs S) (hR : R ≤ A) (hmb : mb < D) (hj : j < k) (hx : xs[j]? = some (.slice (some ⟨d, 0, none⟩) S S)) (hD : D < d) (x : Int) :
    ZL W0 (W.setCell ⟨d, i, none⟩ (.int .i64 x)) D S k R A mb nn cnt uv xs dd left t f := by
  have hd := hh.row _ _ hx
  have hsc := grownBy_setCell W d i (.int .i64 x)
  exact ⟨h.z.store hj hx x, h.m.kept hsc (by simp; omega) (by simp; omega), hsc.cell h.a0 (by simp; omega), hsc.cell h.a1 (by simp; omega)⟩
end Go.Proofs.Ytlckpgahijlmoaa
/- The gluing that sane reads, its classes and rings: the one covering is one, the other is none. -/
namespace Go.Proofs.Ytlckpgahijlmoaa
open Go.RowKit
/-- the two coverings -/
def q1 : Nat → Nat → Int := fun _ i => if i = 0 then 1 else 0
def q2 : Nat → Nat → Int := fun k i => if k = 0 then (if i = 0 then 1 else 0) else i
theorem nF_GS : nF GS = 2 := by decide +kernel
theorem nE_GS : nE GS = 2 := by decide +kernel
theorem rev_GS : ∀ i, i < nE GS → revK GS (6 * GS.n) i = false := fun i hi => by
  have h : ∀ i : Fin 2, revK GS (6 * GS.n) i.val = false := by decide +kernel
  rw [nE_GS] at hi
  exact h ⟨i, hi⟩
theorem eN_GS : ∀ q : Fin 6, 1 < q.val → ∃ q' : Fin 6, q'.val < q.val ∧ eN GS q'.val = eN GS q.val := by decide +kernel
theorem first_GS {q : Nat} (hq : q < 6) (h : firstE GS q) : q = 0 ∨ q = 1 := by
  rcases Nat.lt_or_ge 1 q with h1 | h1
  · obtain ⟨q', a, b⟩ := eN_GS ⟨q, hq⟩ h1
    exact absurd b (h q'.val a)
  · omega
theorem ringOK_of {G : Gl} {f g : Nat → Nat → Int} {sh : Nat} {s : RS} {m0 : Nat} (h0 : 0 < m0) (h1 : itr G 2 s m0 = some s) (h2 : ∀ i : Fin m0, 0 < i.val → itr G 2 s i.val ≠ some s) (h3 : ∀ i : Fin sh, shA G f g (pth G 2 s m0) i.val m0 = i.val) : ringOK G f g sh s := fun m a b c i hi => by
  obtain rfl := ring_uniq h0 a h1 (fun i x y => h2 ⟨i, y⟩ x) b c
  exact h3 ⟨i, hi⟩
theorem cov1 : CovOK GS 2 2 (fun _ => 2) q1 where
  lo := by decide
  hi := by decide
  tets := by decide +kernel
  num := nF_GS.symm
  perms := fun k hk => by
    have h : ∀ k : Fin 2, permB 2 (q1 k.val) 2 = true := by decide +kernel
    exact h ⟨k, hk⟩
  free := fun t f _ h => absurd h (by show ¬ (0 : Int) < 0; decide)
  rings := fun q hq hf => by
    rcases first_GS hq hf with rfl | rfl
    · exact ringOK_of (m0 := 4) (by decide) (by decide +kernel) (by decide +kernel) (by decide +kernel)
    · exact ringOK_of (m0 := 2) (by decide) (by decide +kernel) (by decide +kernel) (by decide +kernel)
theorem cov2 : ¬ CovOK GS 2 2 (fun _ => 2) q2 := fun h => by
  have hf : firstE GS 1 := by
    have h : ∀ q' : Fin 1, eN GS q'.val ≠ eN GS 1 := by decide +kernel
    exact fun q' hq => h ⟨q', hq⟩
  have hr := h.rings 1 (by decide) hf 2 (by decide) (by decide +kernel) (fun i a b => by
    have h : ∀ i : Fin 2, 0 < i.val → itr GS 2 (frS (1 / 6) (1 % 6)) i.val ≠ some (frS (1 / 6) (1 % 6)) := by decide +kernel
    exact h ⟨i, b⟩ a) 0 (by decide)
  exact absurd hr (by decide +kernel)
theorem err1 {c : Int} (h : AskedErr GS 2 2 (fun _ => 2) q1 c) : c = 0 := by
  rcases h with ⟨h, _⟩ | ⟨_, ⟨i, h1, h2⟩, _⟩ | ⟨_, _, h, _⟩ | ⟨_, _, _, h⟩
  · rw [GS_ok] at h; cases h
  · rw [rev_GS i h1] at h2; cases h2
  · exact absurd cov1 h
  · exact h
theorem err2 {c : Int} (h : AskedErr GS 2 2 (fun _ => 2) q2 c) : c = 110 := by
  rcases h with ⟨h, _⟩ | ⟨_, ⟨i, h1, h2⟩, _⟩ | ⟨_, _, _, h⟩ | ⟨_, _, h, _⟩
  · rw [GS_ok] at h; cases h
  · rw [rev_GS i h1] at h2; cases h2
  · exact h
  · exact absurd h cov2
end Go.Proofs.Ytlckpgahijlmoaa
namespace Go.Proofs.Ytlckpgahijlmoaa
open Go.RowKit Go.Shelf

theorem GS_form {B : Nat} {W : World} {u : Value} (h : GlAt B W u GS) : ∃ ga gc, u = .slice ga 1 gc := by
  obtain ⟨a, _, _, cap, e, _⟩ := h
  exact ⟨a, cap, e⟩
theorem two_rows (W : World) (D : Nat) (hD : D = W.heap.size) (q : Nat → Nat → Int) (W' : World) (e : W' = ((W.alloc (.cells #[.int .i64 (q 0 0), .int .i64 (q 0 1)] 3)).alloc (.cells #[.int .i64 (q 1 0), .int .i64 (q 1 1)] 3)).alloc (.cells #[.slice (some ⟨D, 0, none⟩) 2 2, .slice (some ⟨D + 1, 0, none⟩) 2 2] 35)) :
    LLs W'.heap.size W' (.slice (some ⟨D + 1 + 1, 0, none⟩) 2 2) 2 (fun _ => 2) q ∧ W.grownBy W' none := by
  have g1 := World.grownBy_alloc W (.cells #[.int .i64 (q 0 0), .int .i64 (q 0 1)] 3) none
  have g2 := World.grownBy_alloc (W.alloc (.cells #[.int .i64 (q 0 0), .int .i64 (q 0 1)] 3)) (.cells #[.int .i64 (q 1 0), .int .i64 (q 1 1)] 3) none
  have g3 := World.grownBy_alloc ((W.alloc (.cells #[.int .i64 (q 0 0), .int .i64 (q 0 1)] 3)).alloc (.cells #[.int .i64 (q 1 0), .int .i64 (q 1 1)] 3)) (.cells #[.slice (some ⟨D, 0, none⟩) 2 2, .slice (some ⟨D + 1, 0, none⟩) 2 2] 35) none
  rw [← e] at g3
  have hs : W'.heap.size = D + 3 := by rw [e]; simp; omega
  refine ⟨⟨_, D + 1 + 1, 0, 2, rfl, fun _ => ⟨rfl, by omega⟩, fun k hk => ?_⟩, grownBy_trans g1 (grownBy_trans g2 g3)⟩
  have hk' : k = 0 ∨ k = 1 := by omega
  subst hD
  rcases hk' with rfl | rfl
  · refine ⟨_, by rw [e]; simp [go_sem], _, W.heap.size, 0, 2, rfl, fun _ => ⟨rfl, by omega⟩, fun i hi => ?_⟩
    have hi' : i = 0 ∨ i = 1 := by have hi2 : i < 2 := hi; omega
    rcases hi' with rfl | rfl <;> rw [e] <;> simp [go_sem]
  · refine ⟨_, by rw [e]; simp [go_sem], _, W.heap.size + 1, 0, 2, rfl, fun _ => ⟨rfl, by omega⟩, fun i hi => ?_⟩
    have hi' : i = 0 ∨ i = 1 := by have hi2 : i < 2 := hi; omega
    rcases hi' with rfl | rfl <;> rw [e] <;> simp [go_sem]
set_option maxRecDepth 100000 in
set_option maxHeartbeats 2000000 in
theorem sane_walk (w : World) : Calls Try.prog 9 #[] w fun e w' => e = .returned (.bool true) ∧ Below w.heap.size w w' := by
  have hp := fun W => Parse_walk W
  unfold txt at hp
  have HP := Lib.hid hp
  clear hp
  generalize hN : w.heap.size = N at *
  have HNN := Lib.hid hN
  go_enter Try.func9, Try.ntmps9
  go_wp2_with (first
    | (go_at_call 40; (with_reducible refine (HP.out _).mono ?_); rintro e W1 ⟨u, rfl, hgl, hb1⟩; obtain ⟨ga, gc, rfl⟩ := GS_form hgl; have H1 := Lib.hid (And.intro hgl hb1); clear hgl hb1))
  have hb1 : Below N w W1 := hN ▸ H1.out.2
  have hNs : N ≤ W1.heap.size := by have := hb1.size; omega
  have hgl1 := H1.out.1
  clear hN
  obtain ⟨D, hD⟩ : ∃ D, D = W1.heap.size := ⟨_, rfl⟩
  rw [← hD]
  refine wp_world_named fun W2 hW2 => ?_
  obtain ⟨hL2, hg2⟩ := two_rows (W1.alloc (.cells #[.slice ga 1 gc] 24)) (D + 1) (by simp [hD]) q1 W2 hW2
  have hal := World.grownBy_alloc W1 (.cells #[.slice ga 1 gc] 24) none
  have hg12 := grownBy_trans hal hg2
  have y1 : W2.cell? ⟨D, 0, none⟩ = some (.slice ga 1 gc) := hg2.cell (World.cell?_alloc_at _ _ _ _ hD) (by simp)
  have hb2 : Below N w W2 := hb1.grown hg12 hNs (fun k e => by cases e)
  have hb12 : Below W1.heap.size W1 W2 := (Below.refl _ _).grown hg12 (Nat.le_refl _) (fun k e => by cases e)
  have hgl2 := (hgl1.below hb12).mono hb12.size
  clear hW2 hg2 hal hg12
  refine (coverMake_walk GS (.slice ga 1 gc) 2 (.slice (some ⟨D + 1 + 1 + 1, 0, none⟩) 2 2) 2 (fun _ => 2) q1 W2 hgl2 (by decide +kernel) hL2 (fun _ _ => by omega) (by omega)).mono ?_
  rintro e W3 ⟨hb3, c, u, rfl, herr, hu⟩
  obtain rfl := err1 herr
  rcases hu with ⟨h, _⟩ | ⟨_, _, hgl3⟩
  · exact absurd rfl h
  obtain ⟨ga2, gc2, rfl⟩ : ∃ a c, u = .slice a 2 c := by
    obtain ⟨a, _, _, cap, e, _⟩ := hgl3
    exact ⟨a, cap, e⟩
  have y3 := (hb3.cell (p := ⟨D, 0, none⟩) (lt_of_cell y1)).trans y1
  have hNs2 : N ≤ W2.heap.size := by have := hb2.size; have := HNN.out; omega
  have hb3' := hb2.trans (hb3.mono hNs2)
  have hgl3' := (hgl2.below hb3).mono hb3.size
  have y3a := cell_al y3
  have H3 := Lib.hid (And.intro hb3' hgl3')
  clear hD hb3 hb2 hb12 hgl2 hgl3 hgl1 hb1 hL2 y1 hb3' hgl3' herr
  go_wp2_with fail
  obtain ⟨E, hE⟩ : ∃ E, E = W3.heap.size := ⟨_, rfl⟩
  rw [← hE]
  refine wp_world_named fun W4 hW4 => ?_
  obtain ⟨hL4, hg4⟩ := two_rows (W3.alloc (.cells #[.slice ga2 2 gc2] 24)) (E + 1) (by simp [hE]) q2 W4 hW4
  have hal3 := World.grownBy_alloc W3 (.cells #[.slice ga2 2 gc2] 24) none
  have hg34 := grownBy_trans hal3 hg4
  have hNs3 := H3.out.1.size
  have hb4 : Below N w W4 := H3.out.1.grown hg34 (by have := HNN.out; omega) (fun k e => by cases e)
  have hb34 : Below W3.heap.size W3 W4 := (Below.refl _ _).grown hg34 (Nat.le_refl _) (fun k e => by cases e)
  have hgl4 := (H3.out.2.below hb34).mono hb34.size
  refine (coverCheck_walk GS (.slice ga 1 gc) 2 (.slice (some ⟨E + 1 + 1 + 1, 0, none⟩) 2 2) 2 (fun _ => 2) q2 W4 hgl4 (by decide +kernel) hL4 (fun _ _ => by omega) (by omega)).mono ?_
  rintro e W5 ⟨hb5, c, rfl, herr⟩
  obtain rfl := err2 herr
  have H5 := Lib.hid (hb4.trans (hb5.mono (by have := hb4.size; have := HNN.out; omega)))
  clear hW4 hL4 hg4 hal3 hg34 hb4 hb34 hgl4 hb5 herr hE
  go_wp2
  go_ret
  exact ⟨rfl, H5.out⟩
end Go.Proofs.Ytlckpgahijlmoaa
