/- R01.Union of a valid gluing and itself. -/
import Derived.Test.YtlckpgahijlmoaaQ49
import Derived.Test.YtlckpgahijlmoaaQ39
import Derived.Test.YtlckpgahijlmoaaQ50
import Derived.Deep.RegionLaw
namespace Go.Proofs.Ytlckpgahijlmoaa
open Go.RowKit Go.Shelf Go.Maps

/-- a gluing, twice -/
def uniG (G : Gl) : Gl where
  n := G.n + G.n
  tet := fun K => if K < 4 * G.n then G.tet K else movF G G.n (K - 4 * G.n)
  pm := fun K => if K < 4 * G.n then G.pm K else G.pm (K - 4 * G.n)
theorem uni_row1 (G : Gl) {t : Nat} (ht : t < G.n) : rowA (uniG G) t = rowA G t := by
  have h0 : 4 * t < 4 * G.n := by omega
  have h1 : 4 * t + 1 < 4 * G.n := by omega
  have h2 : 4 * t + 2 < 4 * G.n := by omega
  have h3 : 4 * t + 3 < 4 * G.n := by omega
  simp only [rowA, uniG, h0, h1, h2, h3, if_true]
theorem uni_row2 (G : Gl) (t : Nat) : rowA (uniG G) (G.n + t) = rowA (mixG G (movF G G.n) 4) t := by
  have h0 : ¬ 4 * (G.n + t) < 4 * G.n := by omega
  have h1 : ¬ 4 * (G.n + t) + 1 < 4 * G.n := by omega
  have h2 : ¬ 4 * (G.n + t) + 2 < 4 * G.n := by omega
  have h3 : ¬ 4 * (G.n + t) + 3 < 4 * G.n := by omega
  have e0 : 4 * (G.n + t) - 4 * G.n = 4 * t := by omega
  have e1 : 4 * (G.n + t) + 1 - 4 * G.n = 4 * t + 1 := by omega
  have e2 : 4 * (G.n + t) + 2 - 4 * G.n = 4 * t + 2 := by omega
  have e3 : 4 * (G.n + t) + 3 - 4 * G.n = 4 * t + 3 := by omega
  have m0 : (4 * t) % 4 < 4 := by omega
  have m1 : (4 * t + 1) % 4 < 4 := by omega
  have m2 : (4 * t + 2) % 4 < 4 := by omega
  have m3 : (4 * t + 3) % 4 < 4 := by omega
  simp only [rowA, uniG, mixG, h0, h1, h2, h3, e0, e1, e2, e3, m0, m1, m2, m3, if_true, if_false]
theorem gpre_uni (G : Gl) : gpre (uniG G) G.n = gcells G := by
  have : ∀ k, k ≤ G.n → gpre (uniG G) k = (List.range k).flatMap fun t => (rowA G t).toList := fun k hk => by
    induction k with
    | zero => rfl
    | succ k ih => rw [gpre_succ, ih (by omega), uni_row1 G (by omega), List.range_succ, List.flatMap_append]; simp
  exact this G.n (Nat.le_refl _)
/-- Union's boxes -/
structure UN (wr w : World) (N D k : Nat) (uv v : Value) (xs : List Value) : Prop where
  c0 : wr.cell? ⟨N, 0, none⟩ = some v
  c1 : wr.cell? ⟨N + 1, 0, none⟩ = some v
  c2 : wr.cell? ⟨N + 1 + 1, 0, none⟩ = some (.slice none 0 0)
  f2 : wr.frozen? ⟨N + 1 + 1, 0, none⟩ = false
  d0 : wr.cell? ⟨D, 0, none⟩ = some uv
  f0 : wr.frozen? ⟨D, 0, none⟩ = false
  own : wr.ownsRow (N + 3) 88 20 uv k xs
  ne : some D ≠ uv.ownBlock
  le : N + 3 ≤ D
  bel : Below N w wr
theorem UN.mk0 {w2 W w : World} {N k : Nat} {uv v : Value} {xs : List Value} (hb : Below N w w2) (hz : N + 3 ≤ w2.heap.size) (z2 : w2.frozen? ⟨N + 1 + 1, 0, none⟩ = false)
    (c0 : w2.cell? ⟨N, 0, none⟩ = some v) (c1 : w2.cell? ⟨N + 1, 0, none⟩ = some v) (c2 : w2.cell? ⟨N + 1 + 1, 0, none⟩ = some (.slice none 0 0)) (hg : w2.grownBy W none) (hb2 : Below w2.heap.size w2 W)
    (ho : W.ownsRow (N + 3) 88 20 uv k xs) (ht : uv.ownBlock ≠ some W.heap.size) : UN (W.alloc (.cells #[uv] 24)) w N W.heap.size k uv v xs := by
  have g2 := grownBy_trans hg (World.grownBy_alloc W (.cells #[uv] 24) none)
  have hs := hb2.size
  exact ⟨g2.cell c0 (by simp), g2.cell c1 (by simp), g2.cell c2 (by simp), (g2.frozen_far ⟨N + 1 + 1, 0, none⟩ (lt_of_cell c2) (by simp)).trans z2, World.cell?_alloc_at _ _ _ _ rfl, World.frozen?_alloc_at _ _ _ _ rfl, ho.alloc _, fun e => ht e.symm, by omega, (hb.trans (hb2.mono (by omega))).alloc (by have := hb.size; omega) _⟩
theorem own_base {w : World} {b b' : Nat} {e : TypeId} {size : Nat} {v : Value} {n : Nat} {xs : List Value} (h : w.ownsRow b e size v n xs) (hb : b' ≤ b) : w.ownsRow b' e size v n xs := by
  refine ⟨h.1, ?_⟩
  rcases h.2 with ⟨rfl, h0⟩ | ⟨g, cap, cur, hv, hl, r⟩
  · exact .inl ⟨rfl, h0⟩
  · exact .inr ⟨g, cap, cur, hv, by omega, r⟩
theorem UN.below {wr w W : World} {N D k : Nat} {uv v : Value} {xs : List Value} (h : UN wr w N D k uv v xs) (hb : Below wr.heap.size wr W) : UN W w N D k uv v xs := by
  have hg := below_grown hb (Nat.le_refl _) none
  have hs : N ≤ wr.heap.size := by have := lt_of_cell h.d0; have := h.le; simp only at *; omega
  refine ⟨hg.cell h.c0 (by simp), hg.cell h.c1 (by simp), hg.cell h.c2 (by simp), (hg.frozen_far ⟨N + 1 + 1, 0, none⟩ (lt_of_cell h.c2) (by simp)).trans h.f2, hg.cell h.d0 (by simp), (hg.frozen_far ⟨D, 0, none⟩ (lt_of_cell h.d0) (by simp)).trans h.f0, h.own.kept hg ?_, h.ne, h.le, h.bel.trans (hb.mono hs)⟩
  cases uv.ownBlock <;> simp
theorem UN.push {wr w W2 w8 : World} {N D k g gc : Nat} {uv v : Value} {xs ys : List Value} (h : UN wr w N D k uv v xs) (hb : Below wr.heap.size wr W2)
    (hown : w8.ownsRow (N + 3) 88 20 (.slice (some ⟨g, 0, none⟩) (k + 1) gc) (k + 1) (xs ++ ys)) (hgrow : W2.grownBy w8 uv.ownBlock) (hat : uv.ownBlock = some g ∨ g = W2.heap.size) :
    UN (w8.setCell ⟨D, 0, none⟩ (.slice (some ⟨g, 0, none⟩) (k + 1) gc)) w N D (k + 1) (.slice (some ⟨g, 0, none⟩) (k + 1) gc) v (xs ++ ys) := by
  have h2 := h.below hb
  have hsc := grownBy_setCell w8 D 0 (.slice (some ⟨g, 0, none⟩) (k + 1) gc)
  have hD := lt_of_cell h2.d0
  simp only at hD
  have hle := h2.le
  have gD : g ≠ D := by
    rcases hat with e | e
    · intro q; subst q; exact h2.ne e.symm
    · omega
  have far : ∀ x, x < N + 3 → some x ≠ uv.ownBlock := fun x hx e => by have := own_ge h2.own e.symm; omega
  have farD : ∀ x, x < N + 3 → some x ≠ some D := fun x hx e => by cases e; omega
  refine ⟨hsc.cell (hgrow.cell h2.c0 (far N (by omega))) (farD N (by omega)), hsc.cell (hgrow.cell h2.c1 (far (N + 1) (by omega))) (farD (N + 1) (by omega)), hsc.cell (hgrow.cell h2.c2 (far (N + 1 + 1) (by omega))) (farD (N + 1 + 1) (by omega)), ?_, World.cell?_setCell_same _ _ _ (hgrow.cell h2.d0 h2.ne), ?_, hown.kept hsc (.inr (by simp [Value.ownBlock]; exact gD)), by simp [Value.ownBlock]; exact fun e => gD e.symm, h2.le, ?_⟩
  · rw [World.frozen?_setCell]; exact (hgrow.frozen_far ⟨N + 1 + 1, 0, none⟩ (lt_of_cell h2.c2) (far (N + 1 + 1) (by omega))).trans h2.f2
  · rw [World.frozen?_setCell]; exact (hgrow.frozen_far ⟨D, 0, none⟩ (lt_of_cell h2.d0) h2.ne).trans h2.f0
  · exact (h2.bel.grown hgrow (by omega) (fun q hq => by have := own_ge h2.own hq; omega)).setCell (by show N ≤ D; omega) _

set_option maxRecDepth 100000 in
set_option maxHeartbeats 2000000 in
theorem union_walk0 (G : Gl) (w : World) (v : Value) (hG : GlAt w.heap.size w v G) (hok : checkB G = true) (h0 : G.n = 0) :
    Calls Try.prog 46 #[.agg #[v], .agg #[v]] w fun e w' => ∃ ga gc, e = .returned (.tuple #[.agg #[.slice ga (G.n + G.n) gc], .int .i64 0]) ∧ w'.ownsRow w.heap.size 88 20 (.slice ga (G.n + G.n) gc) (G.n + G.n) (gpre (uniG G) (G.n + G.n)) ∧ Below w.heap.size w w' := by
  have HG := Lib.hid (And.intro hG hok)
  obtain ⟨a, cap, rfl⟩ : ∃ a cap, v = .slice a G.n cap := by obtain ⟨a, _, _, cap, e, _⟩ := hG; exact ⟨a, cap, e⟩
  have e0 : checkI G = 0 := by rw [checkI, hok]; rfl
  clear hG hok
  have h24 : ∀ W, Below w.heap.size w W → Calls Try.prog 24 #[.agg #[.slice a G.n cap]] W fun e w' => e = .returned (.int .i64 0) ∧ Below W.heap.size W w' := fun W hb => by
    have := checkRI_walk G W _ ((HG.out.1.below hb).mono hb.size) (by omega)
    rwa [e0] at this
  have H24 := Lib.hid h24
  clear h24 e0
  have hgp : gpre (uniG G) 0 = [] := rfl
  have HX := Lib.hid h0
  rw [h0] at HG H24 ⊢
  rw [Nat.add_zero, hgp]
  clear hgp h0
  go_enter Try.func46, Try.ntmps46
  go_wp2_with fail
  refine (H24.out _ (by (repeat' (first | assumption | exact Below.refl _ _ | refine below_then ?_ (by assumption) | refine below_al ?_ _ | refine below_dr ?_ | refine below_sc ?_ (by simp <;> omega) _)))).mono ?_
  rintro e w1 ⟨rfl, hb1⟩
  have k1 : Below w.heap.size w w1 ∧ w1.cell? ⟨w.heap.size, 0, none⟩ = some (.slice a 0 cap) ∧ w1.cell? ⟨w.heap.size + 1, 0, none⟩ = some (.slice a 0 cap) ∧ w1.cell? ⟨w.heap.size + 1 + 1, 0, none⟩ = some (.slice none 0 0) ∧ w1.frozen? ⟨w.heap.size + 1 + 1, 0, none⟩ = false ∧ w.heap.size + 3 ≤ w1.heap.size := by
    have hs := hb1.size
    simp only [World.size_alloc] at hs
    refine ⟨by (repeat' (first | assumption | exact Below.refl _ _ | refine below_then ?_ (by assumption) | refine below_al ?_ _ | refine below_dr ?_ | refine below_sc ?_ (by simp <;> omega) _)), ?_, ?_, ?_, ?_, by omega⟩
    · exact (hb1.cell (p := ⟨w.heap.size, 0, none⟩) (by simp; omega)).trans (by simp [go_sem])
    · exact (hb1.cell (p := ⟨w.heap.size + 1, 0, none⟩) (by simp <;> omega)).trans (by simp [go_sem])
    · exact (hb1.cell (p := ⟨w.heap.size + 1 + 1, 0, none⟩) (by simp)).trans (by simp [go_sem])
    · exact (hb1.frozen (p := ⟨w.heap.size + 1 + 1, 0, none⟩) (by simp)).trans (by simp [go_sem])
  clear hb1
  obtain ⟨hb, c0, c1, c2, z2, hz⟩ := k1
  have H1 := Lib.hid (And.intro hb hz)
  clear hb hz
  generalize hN : w.heap.size = N at *
  go_wp2_with fail
  refine (H24.out _ H1.out.1).mono ?_
  rintro e w2 ⟨rfl, hb2⟩
  have k2 : Below N w w2 ∧ w2.cell? ⟨N, 0, none⟩ = some (.slice a 0 cap) ∧ w2.cell? ⟨N + 1, 0, none⟩ = some (.slice a 0 cap) ∧ w2.cell? ⟨N + 1 + 1, 0, none⟩ = some (.slice none 0 0) ∧ w2.frozen? ⟨N + 1 + 1, 0, none⟩ = false ∧ N + 3 ≤ w2.heap.size := by
    have hs := hb2.size
    have hh := H1.out
    refine ⟨hh.1.trans (hb2.mono (by omega)), ?_, ?_, ?_, ?_, by omega⟩
    · exact (hb2.cell (p := ⟨N, 0, none⟩) (lt_of_cell c0)).trans c0
    · exact (hb2.cell (p := ⟨N + 1, 0, none⟩) (lt_of_cell c1)).trans c1
    · exact (hb2.cell (p := ⟨N + 1 + 1, 0, none⟩) (lt_of_cell c2)).trans c2
    · exact (hb2.frozen (p := ⟨N + 1 + 1, 0, none⟩) (lt_of_cell c2)).trans z2
  clear hb2 H1 c0 c1 c2 z2
  obtain ⟨hb, c0, c1, c2, z2, hz⟩ := k2
  have H2 := Lib.hid (And.intro hb (And.intro hz z2))
  clear hb hz z2
  have c0a := cell_al c0
  have c1a := cell_al c1
  have c2a := cell_al c2
  have hb3 : Below w2.heap.size w2 (w2.alloc (.cells #[] 88)) := (Below.refl _ _).alloc (Nat.le_refl _) _
  have hun := UN.mk0 (k := 0) (uv := .slice (some ⟨w2.heap.size, 0, none⟩) 0 0) (xs := []) H2.out.1 H2.out.2.1 H2.out.2.2 c0 c1 c2 (World.grownBy_alloc w2 (.cells #[] 88) none) hb3
    ⟨rfl, .inr ⟨w2.heap.size, 0, #[], rfl, H2.out.2.1, heap_alloc_new _ _, by omega, by unfold maxLen; omega, rfl, rfl⟩⟩ (by simp [Value.ownBlock])
  simp only [World.size_alloc] at hun
  obtain ⟨E, hE⟩ : ∃ E, E = w2.heap.size := ⟨_, rfl⟩
  rw [← hE] at hun
  have HU := Lib.hid hun
  have HE := Lib.hid hE
  clear hun hb3
  cases a with
  | none =>
    go_wp2
    refine wp_named fun W hW => ?_
    rw [← hE] at hW ⊢
    have hu : UN W w N (E + 1) 0 (.slice (some ⟨E, 0, none⟩) 0 0) (.slice none 0 cap) [] := by rw [hW]; exact HU.out
    have HW := Lib.hid hu
    clear hu hW hE HU c0 c1 c2 c0a c1a c2a
    go_loopw [7] (fun i wr => i = .int .i64 0 ∧ wr = W) (fun _ _ => 0)
    case atStart => exact ⟨rfl, rfl⟩
    case round =>
      obtain ⟨rfl, rfl⟩ := hrel
      obtain ⟨x0, x1, x2, z2, x3, z3, -, -, -, -⟩ := HW.out
      go_wp2
      refine bodyPost_ret (v := .tuple #[.agg #[.slice (some ⟨E, 0, none⟩) 0 0], .int .i64 0]) (by simp [results, Try.results46, go_sem, *]) rfl ⟨_, _, rfl, ?_, ?_⟩
      · rw [hN]; exact own_base (HW.out.own.kept (grownBy_setCell _ (N + 1 + 1) 0 _) (.inr (by have : N + 3 ≤ E := own_ge HW.out.own rfl; simp [Value.ownBlock]; omega))) (by omega)
      · rw [hN]; exact HW.out.bel.setCell (by show N ≤ N + 1 + 1; omega) _
  | some ad =>
    go_wp2
    refine wp_named fun W hW => ?_
    rw [← hE] at hW ⊢
    have hu : UN W w N (E + 1) 0 (.slice (some ⟨E, 0, none⟩) 0 0) (.slice (some ad) 0 cap) [] := by rw [hW]; exact HU.out
    have HW := Lib.hid hu
    clear hu hW hE HU c0 c1 c2 c0a c1a c2a
    go_loopw [7] (fun i wr => i = .int .i64 0 ∧ wr = W) (fun _ _ => 0)
    case atStart => exact ⟨rfl, rfl⟩
    case round =>
      obtain ⟨rfl, rfl⟩ := hrel
      obtain ⟨x0, x1, x2, z2, x3, z3, -, -, -, -⟩ := HW.out
      go_wp2
      refine bodyPost_ret (v := .tuple #[.agg #[.slice (some ⟨E, 0, none⟩) 0 0], .int .i64 0]) (by simp [results, Try.results46, go_sem, *]) rfl ⟨_, _, rfl, ?_, ?_⟩
      · rw [hN]; exact own_base (HW.out.own.kept (grownBy_setCell _ (N + 1 + 1) 0 _) (.inr (by have : N + 3 ≤ E := own_ge HW.out.own rfl; simp [Value.ownBlock]; omega))) (by omega)
      · rw [hN]; exact HW.out.bel.setCell (by show N ≤ N + 1 + 1; omega) _
set_option maxRecDepth 100000 in
set_option maxHeartbeats 4000000 in
theorem union_walk1 (G : Gl) (w : World) (v : Value) (hG : GlAt w.heap.size w v G) (hok : checkB G = true) (hn : G.n ≤ 500) (h0 : ¬ G.n = 0) :
    Calls Try.prog 46 #[.agg #[v], .agg #[v]] w fun e w' => ∃ ga gc, e = .returned (.tuple #[.agg #[.slice ga (G.n + G.n) gc], .int .i64 0]) ∧ w'.ownsRow w.heap.size 88 20 (.slice ga (G.n + G.n) gc) (G.n + G.n) (gpre (uniG G) (G.n + G.n)) ∧ Below w.heap.size w w' := by
  have HG := Lib.hid (And.intro hG hok)
  obtain ⟨a, cap, rfl⟩ : ∃ a cap, v = .slice a G.n cap := by obtain ⟨a, _, _, cap, e, _⟩ := hG; exact ⟨a, cap, e⟩
  have e0 : checkI G = 0 := by rw [checkI, hok]; rfl
  clear hG hok
  have h24 : ∀ W, Below w.heap.size w W → Calls Try.prog 24 #[.agg #[.slice a G.n cap]] W fun e w' => e = .returned (.int .i64 0) ∧ Below W.heap.size W w' := fun W hb => by
    have := checkRI_walk G W _ ((HG.out.1.below hb).mono hb.size) (by omega)
    rwa [e0] at this
  have H24 := Lib.hid h24
  clear h24 e0
  go_enter Try.func46, Try.ntmps46
  go_wp2_with fail
  refine (H24.out _ (by (repeat' (first | assumption | exact Below.refl _ _ | refine below_then ?_ (by assumption) | refine below_al ?_ _ | refine below_dr ?_ | refine below_sc ?_ (by simp <;> omega) _)))).mono ?_
  rintro e w1 ⟨rfl, hb1⟩
  have k1 : Below w.heap.size w w1 ∧ w1.cell? ⟨w.heap.size, 0, none⟩ = some (.slice a G.n cap) ∧ w1.cell? ⟨w.heap.size + 1, 0, none⟩ = some (.slice a G.n cap) ∧ w1.cell? ⟨w.heap.size + 1 + 1, 0, none⟩ = some (.slice none 0 0) ∧ w1.frozen? ⟨w.heap.size + 1 + 1, 0, none⟩ = false ∧ w.heap.size + 3 ≤ w1.heap.size := by
    have hs := hb1.size
    simp only [World.size_alloc] at hs
    refine ⟨by (repeat' (first | assumption | exact Below.refl _ _ | refine below_then ?_ (by assumption) | refine below_al ?_ _ | refine below_dr ?_ | refine below_sc ?_ (by simp <;> omega) _)), ?_, ?_, ?_, ?_, by omega⟩
    · exact (hb1.cell (p := ⟨w.heap.size, 0, none⟩) (by simp; omega)).trans (by simp [go_sem])
    · exact (hb1.cell (p := ⟨w.heap.size + 1, 0, none⟩) (by simp <;> omega)).trans (by simp [go_sem])
    · exact (hb1.cell (p := ⟨w.heap.size + 1 + 1, 0, none⟩) (by simp)).trans (by simp [go_sem])
    · exact (hb1.frozen (p := ⟨w.heap.size + 1 + 1, 0, none⟩) (by simp)).trans (by simp [go_sem])
  clear hb1
  obtain ⟨hb, c0, c1, c2, z2, hz⟩ := k1
  have H1 := Lib.hid (And.intro hb hz)
  clear hb hz
  generalize hN : w.heap.size = N at *
  go_wp2_with fail
  refine (H24.out _ H1.out.1).mono ?_
  rintro e w2 ⟨rfl, hb2⟩
  have k2 : Below N w w2 ∧ w2.cell? ⟨N, 0, none⟩ = some (.slice a G.n cap) ∧ w2.cell? ⟨N + 1, 0, none⟩ = some (.slice a G.n cap) ∧ w2.cell? ⟨N + 1 + 1, 0, none⟩ = some (.slice none 0 0) ∧ w2.frozen? ⟨N + 1 + 1, 0, none⟩ = false ∧ N + 3 ≤ w2.heap.size := by
    have hs := hb2.size
    have hh := H1.out
    refine ⟨hh.1.trans (hb2.mono (by omega)), ?_, ?_, ?_, ?_, by omega⟩
    · exact (hb2.cell (p := ⟨N, 0, none⟩) (lt_of_cell c0)).trans c0
    · exact (hb2.cell (p := ⟨N + 1, 0, none⟩) (lt_of_cell c1)).trans c1
    · exact (hb2.cell (p := ⟨N + 1 + 1, 0, none⟩) (lt_of_cell c2)).trans c2
    · exact (hb2.frozen (p := ⟨N + 1 + 1, 0, none⟩) (lt_of_cell c2)).trans z2
  clear hb2 H1 c0 c1 c2 z2
  obtain ⟨hb, c0, c1, c2, z2, hz⟩ := k2
  have H2 := Lib.hid (And.intro hb (And.intro hz z2))
  clear hb hz z2
  have c0a := cell_al c0
  have c1a := cell_al c1
  have c2a := cell_al c2
  go_upto_region 5 with fail
  go_cut [6] from 26 to 30 (fun p wc => ∃ D ga gc, p = .pointer (some ⟨D, 0, none⟩) ∧ UN wc w N D G.n (.slice ga G.n gc) (.slice a G.n cap) (gcells G))
  case first =>
    have hpos : 0 < G.n := by omega
    obtain ⟨a', b, off, cap', hv, ha, hc⟩ := HG.out.1
    obtain ⟨rfl, rfl⟩ : a = a' ∧ cap = cap' := by simpa using hv
    obtain ⟨rfl, hbN⟩ := ha hpos
    clear hv ha
    obtain ⟨E0, hE⟩ : ∃ E0, E0 = w2.heap.size := ⟨_, rfl⟩
    have hb3 : Below w2.heap.size w2 (w2.alloc (.cells #[] 88)) := (Below.refl _ _).alloc (Nat.le_refl _) _
    have hcells : ∀ j u, (gcells G)[j]? = some u → (w2.alloc (.cells #[] 88)).cell? ((⟨b, off, none⟩ : Addr).add j) = some u := fun j u hu => by
      have hj : j < G.n * 20 := by have := (List.getElem?_eq_some_iff.1 hu).1; rw [gcells_len] at this; exact this
      have hW := H2.out.1.trans (hb3.mono (by have := H2.out.2.1; omega))
      have hr := rowCells (W := w2.alloc (.cells #[] 88)) (b := b) (off := off) (fun k hk => ⟨(hW.cell (p := ⟨b, _, none⟩) hbN).trans (hc k hk).1, fun i hi => (hW.cell (p := ⟨b, _, none⟩) hbN).trans ((hc k hk).2 i hi)⟩) (j / 20) (by omega) (j % 20) (by omega)
      have e : j = j / 20 * 20 + j % 20 := by omega
      rw [e, gcells_get G (by omega) (by omega), ← hr] at hu
      rw [Addr.add_mid, show off + j = off + j / 20 * 20 + j % 20 by omega]; exact hu
    have hown0 : (w2.alloc (.cells #[] 88)).ownsRow (N + 3) 88 20 (.slice (some ⟨w2.heap.size, 0, none⟩) 0 0) 0 [] := ⟨rfl, .inr ⟨w2.heap.size, 0, #[], rfl, H2.out.2.1, heap_alloc_new _ _, by omega, by unfold maxLen; omega, rfl, rfl⟩⟩
    obtain ⟨i0, hi0, ⟨z0, hz0, hzs⟩, hz1, hz2⟩ := info88
    have HH := Lib.hid (And.intro hcells (And.intro hown0 hb3)); clear hcells hown0 hb3 hc
    go_wp2_with (at_builtin; go_loud (refine (wpList_append_lies _ rfl (.tmp 26) (.tmp 28) 22 rfl (N + 3) 88 i0 z0 20 160 und22 hi0 hz0 hz1 hz2 hzs (by omega) (.slice (some ⟨w2.heap.size, 0, none⟩) 0 0) 0 [] rfl HH.out.2.1 ⟨b, off, none⟩ G.n cap (gcells G) rfl (gcells_len G) HH.out.1 (gcells_one G) hpos (by unfold maxLen; omega) (by omega) (by have := H2.out.2.1; simp; omega) (w2.heap.size + 1) (by simp) ?_); intro g cp w3 r1 r2 r3 r4; have H3 := Lib.hid (And.intro r1 (And.intro r2 (And.intro r3 r4))); clear r1 r2 r3 r4))
    go_meet
    exact ⟨_, _, _, rfl, by
      have hb3 := HH.out.2.2
      obtain ⟨r1, r2, r3, r4⟩ := H3.out
      rw [Nat.zero_add, List.nil_append] at r1
      have hbW : Below w2.heap.size w2 w3 := hb3.grown r2 (by simp) (fun q hq => by simp [Value.ownBlock] at hq; omega)
      have hgz : g = w2.heap.size ∨ g = w2.heap.size + 1 := by
        rcases r3 with e | e
        · simp [Value.ownBlock] at e; exact .inl e.symm
        · exact .inr e
      exact UN.mk0 H2.out.1 H2.out.2.1 H2.out.2.2 c0 c1 c2 (below_grown hbW (Nat.le_refl _) none) hbW r1 (by simp [Value.ownBlock]; omega)⟩
  case rest =>
    obtain ⟨D, ga, gc, rfl, k⟩ := hcut
    have HU := Lib.hid k
    clear k H2 c0 c1 c2 c0a c1a c2a
    go_wp2_with fail
    go_loopw [7] (fun i wr => ∃ (t : Nat) (uv : Value), t ≤ G.n ∧ i = .int .i64 t ∧ UN wr w N D (G.n + t) uv (.slice a G.n cap) (gpre (uniG G) (G.n + t))) (fun i _ => G.n - (intOf i).toNat)
    case atStart => exact ⟨0, _, by omega, rfl, by rw [Nat.add_zero, gpre_uni]; exact HU.out⟩
    case round =>
      clear HU
      obtain ⟨t, uv, ht, rfl, hU⟩ := hrel
      have HK := Lib.hid hU
      obtain ⟨x0, x1, x2, z2, x3, z3, hown, -, -, hbel⟩ := hU
      obtain ⟨ua, uc, rfl⟩ := ownsRow_form hown
      rcases Nat.lt_or_ge t G.n with htn | htn
      · obtain ⟨a', b, off, cap', hv, ha, hc⟩ := HG.out.1
        obtain ⟨rfl, rfl⟩ : a = a' ∧ cap = cap' := by simpa using hv
        obtain ⟨rfl, hbN⟩ := ha (by omega)
        clear hv ha
        have hrg : wr.drew.rangeAt b (off + t * 20) (rowA G t).toList := (rowCells (W := wr) (b := b) (off := off) (fun k hk => ⟨(hbel.cell (p := ⟨b, _, none⟩) hbN).trans (hc k hk).1, fun i hi => (hbel.cell (p := ⟨b, _, none⟩) hbN).trans ((hc k hk).2 i hi)⟩) t htn).range
        have tle : ∀ f, f < 4 → G.tet (4 * t + f) ≤ 1000 := fun f hf => by
          by_cases hneg : G.tet (4 * t + f) < 0
          · omega
          · have := ok_face HG.out.2 (show 4 * t + f < 4 * G.n by omega) hneg
            omega
        have h86 : ∀ W, Calls Try.prog 86 #[.agg (rowA G t), .int .i64 G.n] W fun e w' => e = .returned (.agg (rowA (uniG G) (G.n + t))) ∧ Below W.heap.size W w' := fun W => by
          have := moved_walk G t G.n W (by omega) tle
          rwa [← uni_row2] at this
        have H86 := Lib.hid h86
        have t0 : 0 ≤ (t : Int) := by omega
        have tn : (t : Int) < (G.n : Int) := by omega
        have y0 : wr.drew.cell? ⟨N, 0, none⟩ = some (.slice (some ⟨b, off, none⟩) G.n cap) := x0
        have y1 : wr.drew.cell? ⟨N + 1, 0, none⟩ = some (.slice (some ⟨b, off, none⟩) G.n cap) := x1
        have y3 : wr.drew.cell? ⟨D, 0, none⟩ = some (.slice ua (G.n + t) uc) := x3
        obtain ⟨i0, hi0, ⟨z0, hz0, hzs⟩, hz1, hz2⟩ := info88
        have hpush : ∀ (w6 w8 : World) (g cp : Nat), Below wr.drew.heap.size wr.drew w6 → w8.ownsRow (N + 3) 88 20 (.slice (some ⟨g, 0, none⟩) (G.n + t + 1) cp) (G.n + t + 1) (gpre (uniG G) (G.n + t) ++ (rowA (uniG G) (G.n + t)).toList) →
            (w6.alloc (.cells (rowA (uniG G) (G.n + t)) 88)).grownBy w8 (Value.slice ua (G.n + t) uc).ownBlock → ((Value.slice ua (G.n + t) uc).ownBlock = some g ∨ g = w6.heap.size + 1) →
            UN (w8.setCell ⟨D, 0, none⟩ (.slice (some ⟨g, 0, none⟩) (G.n + t + 1) cp)) w N D (G.n + (t + 1)) (.slice (some ⟨g, 0, none⟩) (G.n + t + 1) cp) (.slice (some ⟨b, off, none⟩) G.n cap) (gpre (uniG G) (G.n + (t + 1))) := fun w6 w8 g cp hb6 h1 h2 h3 => by
          have hp := UN.push (ys := (rowA (uniG G) (G.n + t)).toList) HK.out ((below_dr (Below.refl _ _)).trans ((hb6.alloc hb6.size _).mono (by simp))) h1 h2 (h3.imp id (fun e => by simpa using e))
          rwa [← gpre_succ] at hp
        have HP := Lib.hid hpush
        have HONE := Lib.hid (show ∀ u ∈ (rowA (uniG G) (G.n + t)).toList, u.oneCell' = true from fun u hu => (Array.all_eq_true_iff_forall_mem.1 (rowA_one (uniG G) (G.n + t))) u (by simpa using hu))
        clear hpush hc tle h86 x2 z2 z3 hown hbel
        go_wp2
        clear x0 x1 x3
        refine wp_region_until (fun w' => w'.cell? ⟨N, 0, none⟩ = some (.slice (some ⟨b, off, none⟩) G.n cap) ∧ w'.cell? ⟨N + 1, 0, none⟩ = some (.slice (some ⟨b, off, none⟩) G.n cap) ∧ w'.cell? ⟨D, 0, none⟩ = some (.slice ua (G.n + t) uc) ∧ w'.rangeAt b (off + t * 20) (rowA G t).toList) 12 (by kernel_rfl) ?_
        have hHeld := And.intro y0 (And.intro y1 (And.intro y3 hrg))
        refine wpAnyU.take (i := 0) (v := ?v0) rfl (by kernel_rfl) (fun _ _ _ h => h) (Or.inl ⟨by rfl, ?yy0⟩) hHeld ?rr0
        case yy0 =>
          intro w8 hSw
          obtain ⟨s1, s2, s3, s4⟩ := hSw
          go_simp
          try with_reducible rfl
        try simp only [Act.put, List.setIfInBounds_toArray]
        refine wpAnyU.take (i := 1) (v := ?v1) rfl (by kernel_rfl) (fun _ _ _ h => h) (Or.inl ⟨by rfl, ?yy1⟩) hHeld ?rr1
        case yy1 =>
          intro w8 hSw
          obtain ⟨s1, s2, s3, s4⟩ := hSw
          go_simp
          try with_reducible rfl
        try simp only [Act.put]
        refine wpAnyU.take (i := 2) (v := ?v2) rfl (by kernel_rfl) (fun _ _ _ h => h) (Or.inl ⟨by rfl, ?yy2⟩) hHeld ?rr2
        case yy2 =>
          intro w8 hSw
          obtain ⟨s1, s2, s3, s4⟩ := hSw
          go_simp
          try with_reducible rfl
        try simp only [Act.put]
        refine wpAnyU.take (i := 3) (v := ?v3) rfl (by kernel_rfl) (fun _ _ _ h => h) (Or.inl ⟨by rfl, ?yy3⟩) hHeld ?rr3
        case yy3 =>
          intro w8 hSw
          obtain ⟨s1, s2, s3, s4⟩ := hSw
          go_simp
          try with_reducible rfl
        try simp only [Act.put]
        refine wpAnyU.take (i := 4) (v := ?v4) rfl (by kernel_rfl) (fun _ _ _ h => h) (Or.inl ⟨by rfl, ?yy4⟩) hHeld ?rr4
        case yy4 =>
          intro w8 hSw
          obtain ⟨s1, s2, s3, s4⟩ := hSw
          go_simp
          try with_reducible rfl
        try simp only [Act.put]
        refine wpAnyU.take (i := 5) (v := ?v5) rfl (by kernel_rfl) (fun _ _ _ h => h) (Or.inl ⟨by rfl, ?yy5⟩) hHeld ?rr5
        case yy5 =>
          intro w8 hSw
          obtain ⟨s1, s2, s3, s4⟩ := hSw
          go_simp
          try with_reducible rfl
        try simp only [Act.put]
        refine wpAnyU.take (i := 6) (v := .agg (rowA G t)) rfl (by kernel_rfl) (fun _ _ _ h => h) (yieldsIf_load_mid (by rfl) _ _ rfl _ _ rfl (rowA G t).toList _ (fun w8 hSw => hSw.2.2.2) Try.underlying88 rfl (by kernel_rfl)) hHeld ?rr6
        try simp only [Act.put]
        refine wpAnyU.take (i := 7) (v := ?v7) rfl (by kernel_rfl) (fun _ _ _ h => h) (Or.inl ⟨by rfl, ?yy7⟩) hHeld ?rr7
        case yy7 =>
          intro w8 hSw
          obtain ⟨s1, s2, s3, s4⟩ := hSw
          go_simp
          try with_reducible rfl
        try simp only [Act.put]
        refine wpAnyU.take (i := 8) (v := ?v8) rfl (by kernel_rfl) (fun _ _ _ h => h) (Or.inl ⟨by rfl, ?yy8⟩) hHeld ?rr8
        case yy8 =>
          intro w8 hSw
          obtain ⟨s1, s2, s3, s4⟩ := hSw
          go_simp
          try with_reducible rfl
        try simp only [Act.put]
        refine wpAnyU.take (i := 9) (v := ?v9) rfl (by kernel_rfl) (fun _ _ _ h => h) (Or.inl ⟨by rfl, ?yy9⟩) hHeld ?rr9
        case yy9 =>
          intro w8 hSw
          obtain ⟨s1, s2, s3, s4⟩ := hSw
          go_simp
          try with_reducible rfl
        try simp only [Act.put]
        refine wpAnyU.one (i := 10) (by kernel_rfl) rfl rfl (fun K hK => ?_)
        go_simp
        go_at_call 86
        (with_reducible refine (H86.out _).mono ?_)
        rintro e w6 ⟨rfl, hb6⟩
        have hk6 := (HK.out.below (below_dr (Below.refl _ _))).below hb6
        have c6 := hk6.d0
        have l6 : N + 3 ≤ w6.heap.size := by have := lt_of_cell c6; have := hk6.le; simp only at *; omega
        have hS6 : w6.cell? ⟨N, 0, none⟩ = some (.slice (some ⟨b, off, none⟩) G.n cap) ∧ w6.cell? ⟨N + 1, 0, none⟩ = some (.slice (some ⟨b, off, none⟩) G.n cap) ∧ w6.cell? ⟨D, 0, none⟩ = some (.slice ua (G.n + t) uc) ∧ w6.rangeAt b (off + t * 20) (rowA G t).toList := ⟨(hb6.cell (p := ⟨N, 0, none⟩) (lt_of_cell y0)).trans y0, (hb6.cell (p := ⟨N + 1, 0, none⟩) (lt_of_cell y1)).trans y1, (hb6.cell (p := ⟨D, 0, none⟩) (lt_of_cell y3)).trans y3, fun j v hv => (hb6.cell (p := ⟨b, _, none⟩) (lt_of_cell (hrg j v hv))).trans (hrg j v hv)⟩
        refine hK _ _ (fun _ => hS6) ?_
        clear hK K
        try simp only [Act.put, List.setIfInBounds_toArray, List.set_cons_zero, List.set_cons_succ]
        refine wpAnyU.one (i := 11) (by kernel_rfl) rfl rfl (fun K hK => ?_)
        refine wp_buildTo 22 88 1 _ rfl und22 (rowA (uniG G) (G.n + t)) i0 z0 hi0 hz0 (by rw [hz1]; decide) (by rw [hz1]; decide) (by kernel_rfl) ?_
        refine hK _ _ (fun _ => ⟨cell_al hS6.1 _, cell_al hS6.2.1 _, cell_al hS6.2.2.1 _, World.rangeAt_alloc hS6.2.2.2 _⟩) ?_
        clear hK K
        try simp only [Act.put, List.setIfInBounds_toArray]
        refine wpAnyU.one (i := 12) (by kernel_rfl) rfl rfl (fun K hK => ?_)
        refine wp_append_lies _ (.tmp 39) (.tmp 49) 22 rfl (N + 3) 88 i0 z0 20 160 und22 hi0 hz0 hz1 hz2 hzs (by omega) (.slice ua (G.n + t) uc) (G.n + t) _ rfl (hk6.own.alloc _) ⟨w6.heap.size, 0, none⟩ 1 1 (rowA (uniG G) (G.n + t)).toList rfl rfl (World.news_of_block (cs := rowA (uniG G) (G.n + t)) (MapKept.heap_alloc w6 _).1) HONE.out (by omega) (by unfold maxLen; omega) (by omega) (by simp; omega) (w6.heap.size + 1) (by simp) ?_
        intro g cp w8 h1 h2 h3 h4
        have c8 := h2.cell (cell_al c6 _) hk6.ne
        have f8 := (h2.frozen_far ⟨D, 0, none⟩ (lt_of_cell (cell_al c6 (.cells (rowA (uniG G) (G.n + t)) 88))) hk6.ne).trans (hk6.below ((Below.refl _ _).alloc (Nat.le_refl _) _)).f0
        have HU := Lib.hid (HP.out _ _ _ _ hb6 h1 h2 h3)
        refine hK _ _ (fun h => absurd (h.symm.trans (by kernel_rfl : _ = true)) (by decide)) ?_
        clear hK K hS6 hk6 c6 h1 h2 h3 h4 hHeld y0 y1 y3 hrg
        try simp only [Act.put]
        refine wpAnyU.one (i := 13) (by kernel_rfl) rfl rfl (fun K hK => ?_)
        go_simp
        refine hK _ _ (fun h => absurd (h.symm.trans (by kernel_rfl : _ = true)) (by decide)) ?_
        clear hK K
        try simp only [Act.put, List.setIfInBounds_toArray, List.set_cons_zero, List.set_cons_succ]
        refine wpAnyU.one (i := 14) (by kernel_rfl) rfl rfl (fun K hK => ?_)
        go_simp
        refine hK _ _ (fun h => absurd (h.symm.trans (by kernel_rfl : _ = true)) (by decide)) ?_
        clear hK K
        try simp only [Act.put, List.setIfInBounds_toArray, List.set_cons_zero, List.set_cons_succ]
        refine wpAnyU.fin (by kernel_rfl) ?_ _
        go_wp2_with fail
        exact ⟨⟨t + 1, _, by omega, by simp, HU.out⟩, by simp [intOf]; omega⟩
      · obtain rfl : t = G.n := by omega
        go_wp2
        refine bodyPost_ret (v := .tuple #[.agg #[.slice ua (G.n + G.n) uc], .int .i64 0]) (by simp [results, Try.results46, go_sem, *]) rfl ⟨_, _, rfl, ?_, ?_⟩
        · rw [hN]; exact own_base (HK.out.own.kept (grownBy_setCell _ (N + 1 + 1) 0 _) (by
            cases hq : (Value.slice ua (G.n + G.n) uc).ownBlock with
            | none => exact .inl rfl
            | some q => exact .inr (fun e => by have := own_ge HK.out.own hq; cases e; omega))) (by omega)
        · rw [hN]; exact HK.out.bel.setCell (by show N ≤ N + 1 + 1; omega) _
end Go.Proofs.Ytlckpgahijlmoaa
