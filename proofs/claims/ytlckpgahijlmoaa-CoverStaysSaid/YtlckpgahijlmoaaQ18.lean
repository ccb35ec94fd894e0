/- R01.Same of a gluing and a copy of it. No condition. -/
import Derived.Test.YtlckpgahijlmoaaQ17
namespace Go.Proofs.Ytlckpgahijlmoaa
open Go.RowKit Go.Shelf

theorem run_equal_P4r (d : Nat) (a0 a1 a2 a3 : Int) (w : World) : (Op.equalIn (d + 1 + 1) 85 (.agg #[.int .i64 a0, .int .i64 a1, .int .i64 a2, .int .i64 a3]) (.agg #[.int .i64 a0, .int .i64 a1, .int .i64 a2, .int .i64 a3])).run Try.prog w = .ok true w := by
  rw [run_equal_P4]; simp
theorem run_equal_faceR : ∀ (t a0 a1 a2 a3 : Int) (w : World),
    (Op.equalIn 9999 87 (.agg #[.int .i64 t, .int .i64 a0, .int .i64 a1, .int .i64 a2, .int .i64 a3]) (.agg #[.int .i64 t, .int .i64 a0, .int .i64 a1, .int .i64 a2, .int .i64 a3])).run Try.prog w = .ok true w := by
  intro t a0 a1 a2 a3 w
  have he := fun a0 a1 a2 a3 w => run_equal_P4r 9996 a0 a1 a2 a3 w
  simp only [Nat.reduceAdd] at he
  simp [go_sem, he]
theorem run_equal_rowR (G : Gl) (t : Nat) (w : World) : (Op.equalIn 10000 88 (.agg (rowA G t)) (.agg (rowA G t))).run Try.prog w = .ok true w := by
  show (Op.equalIn (9999 + 1) 88 _ _).run Try.prog w = _
  unfold Op.equalIn
  simp only [Sem.run_bind, run_underlying Try.underlying88, Result.andThen, run_sizeOf' (P := Try.prog) (e := 87) (s := 5) (by kernel_rfl)]
  have pa : ∀ (i : Nat) (w : World), (part 87 (rowA G t) i).run Try.prog w = .ok (.agg ((rowA G t).extract i (i + 5))) w := fun i w => run_part_row Try.underlying87 rfl (by kernel_rfl) _ _ w
  have p0 : (rowA G t).extract 0 5 = faceA G (4 * t) := rfl
  have p1 : (rowA G t).extract 5 10 = faceA G (4 * t + 1) := rfl
  have p2 : (rowA G t).extract 10 15 = faceA G (4 * t + 2) := rfl
  have p3 : (rowA G t).extract 15 20 = faceA G (4 * t + 3) := rfl
  have he := run_equal_faceR
  simp [forIn, ForIn.forIn, List.range', Sem.run_bind, pa, p0, p1, p2, p3, faceA, he, Result.andThen]

set_option maxRecDepth 100000 in
set_option maxHeartbeats 2000000 in
theorem Same_walk (G : Gl) (hn : G.n ≤ 1000000) (w : World) (B : Nat) (v u : Value) (hB : B ≤ w.heap.size) (hv : GlAt B w v G) (hu : GlAt B w u G) :
    Calls Try.prog 15 #[.agg #[v], .agg #[u]] w fun e w' => e = .returned (.bool true) ∧ Below w.heap.size w w' := by
  obtain ⟨a, b, off, cap, rfl, ha, hc⟩ := hv
  obtain ⟨a', b', off', cap', rfl, ha', hc'⟩ := hu
  have HC := Lib.hid (And.intro ha (And.intro hc (And.intro ha' hc'))); clear ha hc ha' hc'
  have hbe := natbeq_true (rfl : G.n = G.n)
  go_enter Try.func15, Try.ntmps15
  go_wp2
  refine wp_named fun W1 hW => ?_
  have h1 : W1.cell? ⟨w.heap.size, 0, none⟩ = some (.slice a G.n cap) ∧ W1.cell? ⟨w.heap.size + 1, 0, none⟩ = some (.slice a' G.n cap') ∧ Below w.heap.size w W1 := by
    rw [hW]; exact ⟨by simp [go_sem], by simp [go_sem], by (repeat' (first | assumption | exact Below.refl _ _ | refine below_then ?_ (by assumption) | refine below_al ?_ _ | refine below_dr ?_ | refine below_sc ?_ (by simp <;> omega) _))⟩
  clear hW
  generalize hN : w.heap.size = N at *
  go_loopw [5] (fun i wr => ∃ k : Nat, k ≤ G.n ∧ i = .int .i64 k ∧ wr.cell? ⟨N, 0, none⟩ = some (.slice a G.n cap) ∧ wr.cell? ⟨N + 1, 0, none⟩ = some (.slice a' G.n cap') ∧ Below N w wr) (fun i _ => G.n - (intOf i).toNat)
  case atStart => exact ⟨0, by omega, rfl, h1⟩
  case round =>
    clear h1
    obtain ⟨k, hk, rfl, x, y, hb⟩ := hrel
    have HK := Lib.hid (And.intro x (And.intro y hb))
    rcases Nat.lt_or_ge k G.n with hkn | hkn
    · obtain ⟨ha, hc, ha', hc'⟩ := HC.out
      obtain ⟨rfl, hbB⟩ := ha (by omega)
      obtain ⟨rfl, hbB'⟩ := ha' (by omega)
      have r1 := rowCells (W := wr) (b := b) (off := off) (fun k hk => ⟨(hb.cell (p := ⟨b, _, none⟩) (by show b < N; omega)).trans (hc k hk).1, fun i hi => (hb.cell (p := ⟨b, _, none⟩) (by show b < N; omega)).trans ((hc k hk).2 i hi)⟩) k hkn
      have r2 := rowCells (W := wr) (b := b') (off := off') (fun k hk => ⟨(hb.cell (p := ⟨b', _, none⟩) (by show b' < N; omega)).trans (hc' k hk).1, fun i hi => (hb.cell (p := ⟨b', _, none⟩) (by show b' < N; omega)).trans ((hc' k hk).2 i hi)⟩) k hkn
      have g1 := r1.range
      have g2 := r2.range
      have hE := run_equal_rowR G k
      have k0 : 0 ≤ (k : Int) := by omega
      have kn : (k : Int) < (G.n : Int) := by omega
      clear hb ha hc ha' hc' r1 r2
      generalize hrow : rowA G k = row at *
      have hsz : row.size = 20 := by rw [← hrow]; rfl
      have hi88 : (Try.prog.info? 88).map (·.size) = some row.size := by rw [hsz]; kernel_rfl
      clear hrow
      go_wp2
      refine wp_region_still_lit (by kernel_rfl) (by kernel_rfl) ?_
      repeat (first | (refine wpStill_load_row rfl 88 (.tmp 23) rfl b (off + k * 20) rfl row _ g1 Try.underlying88 rfl hi88 ?_) | (refine wpStill_load_row rfl 88 (.tmp 28) rfl b' (off' + k * 20) rfl row _ g2 Try.underlying88 rfl hi88 ?_) | (refine wpStill_step (fun K hK => ?_); go_simp; refine hK _ ?_; clear hK K))
      refine wpStill_nil ?_
      go_wp2
      go_roundw
      case rel => exact ⟨k + 1, by omega, rfl, HK.out.1, HK.out.2.1, below_dr HK.out.2.2⟩
      case measure => simp [intOf]; omega
    · obtain rfl : k = G.n := by omega
      clear hb
      go_wp2
      go_ret
      exact ⟨rfl, hN ▸ HK.out.2.2⟩
end Go.Proofs.Ytlckpgahijlmoaa
