/- skel's next: the triangles behind the faces of a triangle. -/
import Derived.Test.YtlckpgahijlmoaaQ13
import Derived.Maps.RangeWalk
namespace Go.Proofs.Ytlckpgahijlmoaa
open Go.RowKit Go.Shelf Go.Maps

/-- a whole row of cells is loaded, in a region that only reads -/
theorem wpStill_load_row {P : Program} {ops : Array Oper} {rest : List Oper} {op : Oper} {a : Act} {w : World} {Q : Act → Prop} (hgd : op.guard = none) (ty : TypeId) (x : Operand) (ho : op.op = .load ty x)
    (b o : Nat) (hx : a.eval x = .pointer (some ⟨b, o, none⟩)) (cs : Array Value) (d : TypeDesc) (hc : w.rangeAt b o cs.toList)
    (hu : P.underlying ty = some d) (hd : d.isRow = true) (hi : (P.info? ty).map (·.size) = some cs.size)
    (h : wpStill P ops w Q rest (a.put op.dst (.agg cs))) : wpStill P ops w Q (op :: rest) a := by
  refine wpStill_step (fun K hK => ?_)
  have hw : Region.wanted op (yielded ops a.tmps) = true := by simp [Region.wanted, hgd]
  rw [if_pos hw]
  unfold Oper.still execOp
  have hl := run_loadVar_mid (P := P) w b o ty cs.toList d hc hu hd (by simpa using hi)
  simp only [ho, hx, Instr.loadAt, Instr.sureAddr, Sem.run_bind, Sem.run_pure, Result.andThen_ok, hl, Array.toArray_toList, Oper.stillUpon_value]
  exact hK _ h

/-- the triangle behind a face -/
def nxF (G : Gl) (ks : List Nat) (t i f : Nat) : Int := if f ≠ i ∧ ¬ G.tet (4 * t + f) < 0 then (((plD ks (G.T (4 * t + f), G.P (4 * t + f) i)).getD 0 : Nat) : Int) else -1

set_option maxRecDepth 100000 in
set_option maxHeartbeats 4000000 in
theorem next_walk (G : Gl) (B L : Nat) (lv : Value) (mb : Nat) (v : Value) (ks : List Nat) (t i : Nat) (ht : t < G.n) (hi : i < 4) (w : World) (B0 : Nat) (hB0 : B0 ≤ w.heap.size) (hG : GlAt B0 w v G) (hok : checkB G = true) (hL : LK w B L lv mb v ks) :
    Calls Try.prog 130 #[.pointer (some ⟨L, 0, none⟩), .agg #[.int .i64 (t : Int), .int .i64 (i : Int)]] w fun e w' => e = .returned (.agg #[Value.int .i64 (nxF G ks t i 0), Value.int .i64 (nxF G ks t i 1), Value.int .i64 (nxF G ks t i 2), Value.int .i64 (nxF G ks t i 3)]) ∧ Below w.heap.size w w' := by
  have hn : G.n ≤ 1000 := by simp only [checkB, Bool.and_eq_true, decide_eq_true_eq] at hok; exact hok.1
  have HOK := Lib.hid hok; clear hok
  obtain ⟨a, b, off, cap, rfl, hga, hc⟩ := hG
  obtain ⟨rfl, hbB⟩ := hga (by omega)
  have hrow := rowCells hc t ht
  have l0 := hL.c0
  have HL := Lib.hid hL; clear hL
  have HC := Lib.hid hrow; clear hrow hc hga
  go_enter Try.func130, Try.ntmps130
  go_wp2
  refine wp_named fun W1 hW => ?_
  have hB : Below w.heap.size w W1 := by rw [hW]; (repeat' (first | assumption | exact Below.refl _ _ | refine below_then ?_ (by assumption) | refine below_al ?_ _ | refine below_dr ?_ | refine below_sc ?_ (by simp <;> omega) _))
  have hrg : W1.rangeAt b (off + t * 20) (rowA G t).toList := RowCells.range (fun j hj => (hB.cell (p := ⟨b, _, none⟩) (by show b < _; omega)).trans (HC.out j hj))
  have l0' := (hB.cell (p := ⟨L, 0, none⟩) (lt_of_cell l0)).trans l0
  have x0 : W1.cell? ⟨w.heap.size, 0, none⟩ = some (.int .i64 (t : Int)) := by rw [hW]; simp [go_sem]
  have x1 : W1.cell? ⟨w.heap.size, 1, none⟩ = some (.int .i64 (i : Int)) := by rw [hW]; simp [go_sem]
  have hr5 : W1.rowIs (w.heap.size + 1 + 1) 84 4 (fun f => .int .i64 (if f < 0 then nxF G ks t i f else -1)) := by
    have := World.rowIs_alloc ((w.alloc (.cells #[.int .i64 (t : Int), .int .i64 (i : Int)] 207)).alloc (.cells #[.int .i64 0, .int .i64 0, .int .i64 0, .int .i64 0] 84)) #[.int .i64 (-1), .int .i64 (-1), .int .i64 (-1), .int .i64 (-1)] 84 (fun f => .int .i64 (if f < 0 then nxF G ks t i f else -1)) (by
      intro j hj
      match j, hj with
      | 0, _ => rfl
      | 1, _ => rfl
      | 2, _ => rfl
      | 3, _ => rfl)
    rw [hW]
    simpa using this
  have cr : W1.cell? ⟨w.heap.size + 1, 0, none⟩ = some (.int .i64 0) ∧ W1.cell? ⟨w.heap.size + 1, 1, none⟩ = some (.int .i64 0) ∧ W1.cell? ⟨w.heap.size + 1, 2, none⟩ = some (.int .i64 0) ∧ W1.cell? ⟨w.heap.size + 1, 3, none⟩ = some (.int .i64 0) := by rw [hW]; simp [go_sem]
  have fr : W1.frozen? ⟨w.heap.size + 1, 0, none⟩ = false ∧ W1.frozen? ⟨w.heap.size + 1, 1, none⟩ = false ∧ W1.frozen? ⟨w.heap.size + 1, 2, none⟩ = false ∧ W1.frozen? ⟨w.heap.size + 1, 3, none⟩ = false := by rw [hW]; simp [go_sem]
  have hs : W1.heap.size = w.heap.size + 3 := by rw [hW]; simp
  clear hW
  generalize hN : w.heap.size = N at *
  have H := Lib.hid (And.intro hB (And.intro hr5 (And.intro cr fr))); clear hB hr5 cr fr
  have it : (t : Int) < (G.n : Int) := by omega
  have it0 : 0 ≤ (t : Int) := by omega
  refine wp_region_still_lit (by kernel_rfl) (by kernel_rfl) ?_
  repeat (first | (refine wpStill_load_row rfl 88 (.tmp 16) rfl b (off + t * 20) rfl (rowA G t) _ hrg Try.underlying88 rfl (by kernel_rfl) ?_) | (refine wpStill_step (fun K hK => ?_); go_simp; refine hK _ ?_; clear hK K))
  refine wpStill_nil ?_
  clear x0 l0' hrg
  go_wp2
  go_loopw [18] (fun i' wr => ∃ f : Nat, f ≤ 4 ∧ i' = .int .i64 f ∧ wr.rowIs (N + 1 + 1) 84 4 (fun g => .int .i64 (if g < f then nxF G ks t i g else -1)) ∧ W1.grownBy wr (some (N + 1 + 1))) (fun i _ => 4 - (intOf i).toNat)
  case atStart => exact ⟨0, by omega, rfl, H.out.2.1, grownBy_drew _ _⟩
  case round =>
    obtain ⟨f, hf, rfl, hr, hg⟩ := hrel
    have HK := Lib.hid (And.intro hr hg)
    have x1' := hg.cell x1 (by simp; omega)
    have hNr : N < wr.heap.size := lt_of_cell x1'
    have x1a : ∀ o, (wr.alloc o).cell? ⟨N, 1, none⟩ = some (.int .i64 (i : Int)) := fun o => (World.grownBy_alloc wr o none).cell x1' (by simp)
    rcases Nat.lt_or_ge f 4 with hlf | hgf
    · have f4 : (f : Int) < 4 := by omega
      have f0 : 0 ≤ (f : Int) := by omega
      have hix := fun w => row_index G t f hlf w
      unfold faceA at hix
      have hk : 4 * t + f < 4 * G.n := by omega
      have hsz := hg.size
      clear hr hg
      by_cases hfi : f = i
      · have hq := natbne_false hfi
        have HE := Lib.hid (show nxF G ks t i f = -1 by simp [nxF, hfi])
        clear hfi
        go_wp2
        go_roundw
        case rel =>
          refine ⟨f + 1, by omega, rfl, (HK.out.1.alloc _).congr (fun g _ => ?_), grownBy_trans HK.out.2 (World.grownBy_alloc _ _ _)⟩
          rcases Nat.lt_trichotomy g f with q | q | q
          · simp [q, show g < f + 1 by omega]
          · subst q; simp [HE.out]
          · simp [show ¬ g < f by omega, show ¬ g < f + 1 by omega]
        case measure => simp [intOf]; omega
      · have hq := natbne_true hfi
        by_cases hneg : G.tet (4 * t + f) < 0
        · have HE := Lib.hid (show nxF G ks t i f = -1 by simp [nxF, hneg])
          generalize G.tet (4 * t + f) = T at *
          go_wp2
          go_roundw
          case rel =>
            refine ⟨f + 1, by omega, rfl, (HK.out.1.alloc _).congr (fun g _ => ?_), grownBy_trans HK.out.2 (World.grownBy_alloc _ _ _)⟩
            rcases Nat.lt_trichotomy g f with q | q | q
            · simp [q, show g < f + 1 by omega]
            · subst q; simp [HE.out]
            · simp [show ¬ g < f by omega, show ¬ g < f + 1 by omega]
          case measure => simp [intOf]; omega
        · obtain ⟨e1, e2, e3⟩ := ok_face HOK.out hk hneg
          have HE := Lib.hid (show nxF G ks t i f = (((plD ks (G.T (4 * t + f), G.P (4 * t + f) i)).getD 0 : Nat) : Int) by simp only [nxF]; rw [if_pos ⟨hfi, hneg⟩])
          clear hfi
          rw [e1, (e3 0 (by omega)).1, (e3 1 (by omega)).1, (e3 2 (by omega)).1, (e3 3 (by omega)).1] at hix
          have E3 := Lib.hid e3
          have e3i := (e3 i hi).2
          clear e1 e3 hneg
          generalize G.T (4 * t + f) = T at *
          have T0 : 0 ≤ (T : Int) := by omega
          have i4 : (i : Int) < 4 := by omega
          have i0 : 0 ≤ (i : Int) := by omega
          go_wp2_with fail
          refine wp_named fun W3 hW3 => ?_
          have hg3 : wr.grownBy W3 none := hW3 ▸ World.grownBy_alloc _ _ _
          have hBr : Below N w W3 := (H.out.1.grown HK.out.2 (by omega) (fun k hk => by cases hk; omega)).grown hg3 (by omega) (by simp)
          have cT : W3.cell? ⟨wr.heap.size, 0, none⟩ = some (.int .i64 (T : Int)) := by rw [hW3]; simp [go_sem]
          have cP : W3.cell? ⟨wr.heap.size, 1 + i, none⟩ = some (.int .i64 (G.P (4 * t + f) i : Nat)) := by
            rw [hW3]
            match i, hi with
            | 0, _ => simp [go_sem]
            | 1, _ => simp [go_sem]
            | 2, _ => simp [go_sem]
            | 3, _ => simp [go_sem]
          have x1'' := hg3.cell x1' (by simp)
          have hr3 := rowIs_kept HK.out.1 hg3 (by simp)
          have cf := hr3.cell hlf
          have ff := hr3.frozen f
          have hL3 := HL.out.below (hN ▸ hBr : Below w.heap.size w W3)
          have l2 := hL3.c2
          obtain ⟨nn, hmap⟩ := hL3.map
          generalize hpi : G.P (4 * t + f) i = pi at *
          have hlk := (MapIs.of_block (W' := W3.drew) hmap rfl).look codes207 und203 (zero3 _) false (T, pi) ⟨by show T < _; omega, by show pi < _; omega⟩
          have hmt : ((plD ks (T, pi)).elim (Value.int .i64 0) vi) = .int .i64 (((plD ks (T, pi)).getD 0 : Nat) : Int) := by cases plD ks (T, pi) <;> rfl
          simp only [kp, Bool.false_eq_true, if_false, hmt] at hlk
          generalize (plD ks (T, pi)).getD 0 = ix at *
          have H3 := Lib.hid (And.intro hr3 (And.intro hg3 hBr))
          have hsz3 := hg3.size
          clear hmt hmap hL3 hr3 hg3 hBr hW3 hix
          refine region_tail 15 (by kernel_rfl) (by kernel_rfl) ?_
          simp only [List.take_succ_cons, List.take_zero, List.drop_succ_cons, List.drop_zero]
          repeat (refine wpStill_step (fun K hK => ?_); go_simp; refine hK _ ?_; clear hK K)
          refine wpStill_nil ?_
          go_wp2
          go_roundw
          case rel =>
            refine ⟨f + 1, by omega, rfl, (H3.out.1.drew.set f _).congr (fun g _ => ?_), grownBy_trans (grownBy_trans HK.out.2 (H3.out.2.1.but _)) (grownBy_trans (grownBy_drew _ _) (grownBy_setCell _ _ _ _))⟩
            rcases Nat.lt_trichotomy g f with q | q | q
            · simp [q, show g < f + 1 by omega, show g ≠ f by omega]
            · subst q; simp [HE.out]
            · simp [show ¬ g < f by omega, show ¬ g < f + 1 by omega, show g ≠ f by omega]
          case measure => simp [intOf]; omega
    · obtain rfl : f = 4 := by omega
      have c0 := hr.cell (i := 0) (by omega)
      have c1 := hr.cell (i := 1) (by omega)
      have c2 := hr.cell (i := 2) (by omega)
      have c3 := hr.cell (i := 3) (by omega)
      simp at c0 c1 c2 c3
      obtain ⟨⟨r0, r1, r2, r3⟩, s0, s1, s2, s3⟩ := H.out.2.2
      have r0' := hg.cell r0 (by simp)
      have r1' := hg.cell r1 (by simp)
      have r2' := hg.cell r2 (by simp)
      have r3' := hg.cell r3 (by simp)
      have s0' := (hg.frozen_far ⟨N + 1, 0, none⟩ (by simp; omega) (by simp)).trans s0
      have s1' := (hg.frozen_far ⟨N + 1, 1, none⟩ (by simp; omega) (by simp)).trans s1
      have s2' := (hg.frozen_far ⟨N + 1, 2, none⟩ (by simp; omega) (by simp)).trans s2
      have s3' := (hg.frozen_far ⟨N + 1, 3, none⟩ (by simp; omega) (by simp)).trans s3
      clear hr hg r0 r1 r2 r3 s0 s1 s2 s3
      go_wp2
      refine bodyPost_ret (v := .agg #[Value.int .i64 (nxF G ks t i 0), Value.int .i64 (nxF G ks t i 1), Value.int .i64 (nxF G ks t i 2), Value.int .i64 (nxF G ks t i 3)]) (by simp [results, Try.results130, go_sem, *]) rfl ⟨rfl, ?_⟩
      have hb := H.out.1.grown HK.out.2 (by omega) (fun k hk => by cases hk; omega)
      subst hN
      exact below_sc (below_sc (below_sc (below_sc hb (by simp) _) (by simp) _) (by simp) _) (by simp) _
end Go.Proofs.Ytlckpgahijlmoaa
