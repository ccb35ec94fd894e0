/- R01.moved: the faces of a tetrahedron with the numbers of tetrahedra moved. No condition but that the sums fit. -/
import Derived.Test.YtlckpgahijlmoaaQ34
import Derived.Laws.Rows
import Derived.Laws.CopyOwn
namespace Go.Proofs.Ytlckpgahijlmoaa
open Go.RowKit Go.Shelf Go.Maps

/-- a gluing whose tetrahedra are moved -/
def movF (G : Gl) (y : Int) (k : Nat) : Int := if G.tet k < 0 then G.tet k else G.tet k + y
/-- moved's box and result -/
structure MV (wr w : World) (N t f : Nat) (G : Gl) (y : Int) : Prop where
  row : RowCells wr N 0 (mixG G (movF G y) f) t
  res : wr.heap[N + 1]? = some (.cells #[.int .i64 0, .int .i64 0, .int .i64 0, .int .i64 0, .int .i64 0, .int .i64 0, .int .i64 0, .int .i64 0, .int .i64 0, .int .i64 0, .int .i64 0, .int .i64 0, .int .i64 0, .int .i64 0, .int .i64 0, .int .i64 0, .int .i64 0, .int .i64 0, .int .i64 0, .int .i64 0] 88 (0, 0))
  fr : ∀ j, wr.frozen? ⟨N, j, none⟩ = false
  bel : Below N w wr
theorem MV.turn {wr w : World} {N t f : Nat} {G : Gl} {y : Int} (hf : f < 4) (h : MV wr w N t f G y) : MV (wr.setCell ⟨N, f * 5, none⟩ (.int .i64 (movF G y (4 * t + f)))) w N t (f + 1) G y :=
  ⟨h.row.turn hf, (Below.heap_setCell _ _ _ _ (by simp)).trans h.res, fun j => by rw [World.frozen?_setCell]; exact h.fr j, h.bel.setCell (Nat.le_refl _) _⟩
theorem MV.skip {wr w : World} {N t f : Nat} {G : Gl} {y : Int} (hf : f < 4) (hX : movF G y (4 * t + f) = G.tet (4 * t + f)) (h : MV wr w N t f G y) : MV wr w N t (f + 1) G y :=
  ⟨h.row.skipF hf hX, h.res, h.fr, h.bel⟩
theorem mixrow_cell (G : Gl) (X : Nat → Int) (f t : Nat) (hf : f < 4) : (rowA (mixG G X f) t)[f * 5]? = some (.int .i64 (G.tet (4 * t + f))) := by
  have m0 : (4 * t) % 4 = 0 := by omega
  have m1 : (4 * t + 1) % 4 = 1 := by omega
  have m2 : (4 * t + 2) % 4 = 2 := by omega
  have m3 : (4 * t + 3) % 4 = 3 := by omega
  have hm' : f = 0 ∨ f = 1 ∨ f = 2 ∨ f = 3 := by omega
  rcases hm' with rfl | rfl | rfl | rfl <;> simp [rowA, mixG, m0, m1, m2, m3]

set_option maxRecDepth 100000 in
set_option maxHeartbeats 2000000 in
theorem moved_walk (G : Gl) (t : Nat) (y : Int) (w : World) (hy : 0 ≤ y ∧ y ≤ 1000) (ht : ∀ f, f < 4 → G.tet (4 * t + f) ≤ 1000) :
    Calls Try.prog 86 #[.agg (rowA G t), .int .i64 y] w fun e w' => e = .returned (.agg (rowA (mixG G (movF G y) 4) t)) ∧ Below w.heap.size w w' := by
  have HT := Lib.hid ht; clear ht
  go_enter Try.func86, Try.ntmps86
  go_wp2
  refine wp_named fun W1 hW => ?_
  have h1 : MV W1 w w.heap.size t 0 G y := by
    rw [hW]
    refine ⟨?_, heap_alloc2_new _ _ _, fun j => ?_, by (repeat' (first | assumption | exact Below.refl _ _ | refine below_then ?_ (by assumption) | refine below_al ?_ _ | refine below_dr ?_ | refine below_sc ?_ (by simp <;> omega) _))⟩
    · intro j hj
      rw [mix_zero, Nat.zero_add, World.cell?_alloc_lt _ _ _ (by simp)]
      exact World.cell?_alloc_at _ _ _ _ rfl
    · exact ((World.grownBy_alloc (w.alloc (.cells (rowA G t) 88)) _ none).frozen_far ⟨w.heap.size, j, none⟩ (by simp) (by simp)).trans (World.frozen?_alloc_at _ _ _ _ rfl)
  have H1 := Lib.hid h1; clear h1 hW
  generalize hN : w.heap.size = N at *
  have HN := Lib.hid hN
  clear hN
  go_loopw [5] (fun i wr => ∃ f : Nat, f ≤ 4 ∧ i = .int .i64 f ∧ MV wr w N t f G y) (fun i _ => 4 - (intOf i).toNat)
  case atStart => exact ⟨0, by omega, rfl, H1.out⟩
  case round =>
    clear H1
    obtain ⟨f, hf, rfl, hR⟩ := hrel
    have HK := Lib.hid hR
    rcases Nat.lt_or_ge f 4 with hf4 | hf4
    · have c0 : wr.cell? ⟨N, f * 5, none⟩ = some (.int .i64 (G.tet (4 * t + f))) := by
        have := hR.row (f * 5) (by omega)
        rw [Nat.zero_add, mixrow_cell G _ f t hf4] at this
        exact this
      have z0 := hR.fr (f * 5)
      have f0 : 0 ≤ (f : Int) := by omega
      have f4 : (f : Int) < 4 := by omega
      by_cases hneg : G.tet (4 * t + f) < 0
      · have HX := Lib.hid (show movF G y (4 * t + f) = G.tet (4 * t + f) by rw [movF, if_pos hneg])
        generalize hT : G.tet (4 * t + f) = T at *
        have q : decide (0 ≤ T) = false := by simp; omega
        clear hR
        go_wp2
        go_roundw
        case rel => exact ⟨f + 1, by omega, rfl, HK.out.skip hf4 (by rw [HX.out, hT])⟩
        case measure => simp [intOf]; omega
      · have HX := Lib.hid (show movF G y (4 * t + f) = G.tet (4 * t + f) + y by rw [movF, if_neg hneg])
        have hle := HT.out f hf4
        generalize hT : G.tet (4 * t + f) = T at *
        have q : decide (0 ≤ T) = true := by simp; omega
        have qs : IntKind.i64.wrap (T + y) = T + y := IntWalk.i64_in _ (by omega)
        clear hR
        go_wp2
        go_roundw
        case rel =>
          refine ⟨f + 1, by omega, rfl, ?_⟩
          rw [← HX.out]
          exact HK.out.turn hf4
        case measure => simp [intOf]; omega
    · have hr := hR.row
      rw [show f = 4 by omega] at hr
      have hrg := hr.range
      have hres := hR.res
      clear hR
      go_wp2_with (first | (refine wpList_load_row' rfl 88 (.tmp 2) rfl N 0 rfl (rowA (mixG G (movF G y) 4) t) _ hrg Try.underlying88 rfl (by kernel_rfl) ?_) | (refine wpList_store_row rfl 88 (.tmp 4) (.tmp 24) rfl (N + 1) (rowA (mixG G (movF G y) 4) t) rfl rfl 88 _ hres (by kernel_rfl) rfl (rowA_one _ t) ?_))
      refine bodyPost_ret (results_cell_row (p := 4) (ty := 88) rfl _ _ (N + 1) 88 (rowA (mixG G (movF G y) 4) t) (0, 0) _ (by simp [go_sem]) (setRow_heap _ _ _ _ _ _ hres) Try.underlying88 rfl (by kernel_rfl)) rfl ⟨rfl, HN.out ▸ below_setRow (g := N + 1) HK.out.bel (by omega) _⟩
end Go.Proofs.Ytlckpgahijlmoaa
