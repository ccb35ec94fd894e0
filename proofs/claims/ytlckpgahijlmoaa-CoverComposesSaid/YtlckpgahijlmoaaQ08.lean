/- A range over an iterator that runs until its loop leaves: the loop's invariant bounds what has come. No condition. -/
import Derived.Test.YtlckpgahijlmoaaQ07
/- glue.Check: what it returns, for every gluing of at most 1000 tetrahedra. -/
namespace Go.Proofs.Ytlckpgahijlmoaa
open Go.RowKit Go.Shelf Go.Sort
attribute [local go_sem] Oper.semAt_some

theorem below_keeps {B : Nat} {W W' : World} (h : Below W.heap.size W W') : KeepsFrom B W W' :=
  ⟨h.size, fun k _o _ hk _ => (h.block k (Array.getElem?_eq_some_iff.1 hk).1).trans hk⟩
theorem keeps_setCell {B : Nat} {W W' : World} (h : KeepsFrom B W W') (a : Addr) (v : Value) : KeepsFrom B W (W'.setCell a v) := h.trans ((KeepsOthers.setCell W' a v).from B)
theorem cell_blk {W : World} {b j : Nat} {c : Array Value} {t : TypeId} (h : W.heap[b]? = some (.cells c t (0, 0))) {v : Value} (hv : c[j]? = some v) : W.cell? ⟨b, j, none⟩ = some v := by rw [cell_of_row W b j c t (0, 0) h, hv]
theorem frozen_blk {W : World} {b j : Nat} {c : Array Value} {t : TypeId} (h : W.heap[b]? = some (.cells c t (0, 0))) : W.frozen? ⟨b, j, none⟩ = false := frozen_of_row W b j c t h

set_option maxRecDepth 100000 in
set_option maxHeartbeats 4000000 in
theorem Check_small (G : Gl) (v : Value) (w : World) (hG : GlAt w.heap.size w v G) (hn : G.n ≤ 1000) :
    CallsIn Fence.wide 6 Try.prog 57 #[.agg #[v]] w fun e w' => e = .returned (.int .i64 (checkI G)) ∧ Below w.heap.size w w' := by
  have hG0 := Lib.hid hG
  obtain ⟨a, b, off, cap, rfl, hga, hc⟩ := hG
  have HC := Lib.hid hc; clear hc
  refine callsIn_of_wp_marks Try.func57 rfl trivial ?_ rfl
  simp only [Try.ntmps57, List.size_toArray, List.length_cons, List.length_nil, Nat.reduceAdd, Nat.reduceSub, Array.replicate_succ, Array.replicate_zero, List.push_toArray, List.append_toArray, List.nil_append, List.cons_append]
  gi_wp2_with (refine ⟨trivial, ?_⟩; gi_at_call 96; refine (callsIn_wide.2 (faces_walk _ _ _ _ rfl _)).mono ?_; rintro e w' ⟨rfl, rfl⟩)
  have hB0 : Below w.heap.size w ((((w.alloc (.cells #[.slice a G.n cap] 24)).alloc (.cells #[.int .i64 0] 29)).alloc (.cells #[.int .i64 (-1), .int .i64 0, .int .i64 0, .int .i64 0, .int .i64 0] 87)).alloc (.cells #[.slice a G.n cap] 24)) := by (repeat' (first | assumption | exact Below.refl _ _ | refine below_then ?_ (by assumption) | refine below_al ?_ _ | refine below_dr ?_ | refine below_sc ?_ (by simp <;> omega) _))
  have hs0 : ((((w.alloc (.cells #[.slice a G.n cap] 24)).alloc (.cells #[.int .i64 0] 29)).alloc (.cells #[.int .i64 (-1), .int .i64 0, .int .i64 0, .int .i64 0, .int .i64 0] 87)).alloc (.cells #[.slice a G.n cap] 24)).heap.size = w.heap.size + 4 := by simp
  have k1 : ((((w.alloc (.cells #[.slice a G.n cap] 24)).alloc (.cells #[.int .i64 0] 29)).alloc (.cells #[.int .i64 (-1), .int .i64 0, .int .i64 0, .int .i64 0, .int .i64 0] 87)).alloc (.cells #[.slice a G.n cap] 24)).heap[w.heap.size]? = some (.cells #[.slice a G.n cap] 24 (0, 0)) := (Below.heap_alloc _ _ _ (by simp; omega)).trans ((Below.heap_alloc _ _ _ (by simp; omega)).trans ((Below.heap_alloc _ _ _ (by simp)).trans (heap_alloc_last w _)))
  have k2 : ((((w.alloc (.cells #[.slice a G.n cap] 24)).alloc (.cells #[.int .i64 0] 29)).alloc (.cells #[.int .i64 (-1), .int .i64 0, .int .i64 0, .int .i64 0, .int .i64 0] 87)).alloc (.cells #[.slice a G.n cap] 24)).heap[w.heap.size + 1]? = some (.cells #[.int .i64 0] 29 (0, 0)) := (Below.heap_alloc _ _ _ (by simp)).trans ((Below.heap_alloc _ _ _ (by simp)).trans (by have := heap_alloc_last (w.alloc (.cells #[.slice a G.n cap] 24)) (.cells #[.int .i64 0] 29); rw [World.size_alloc] at this; exact this))
  have k3 : ((((w.alloc (.cells #[.slice a G.n cap] 24)).alloc (.cells #[.int .i64 0] 29)).alloc (.cells #[.int .i64 (-1), .int .i64 0, .int .i64 0, .int .i64 0, .int .i64 0] 87)).alloc (.cells #[.slice a G.n cap] 24)).heap[w.heap.size + 1 + 1]? = some (.cells #[.int .i64 (-1), .int .i64 0, .int .i64 0, .int .i64 0, .int .i64 0] 87 (0, 0)) := (Below.heap_alloc _ _ _ (by simp)).trans (by have := heap_alloc_last ((w.alloc (.cells #[.slice a G.n cap] 24)).alloc (.cells #[.int .i64 0] 29)) (.cells #[.int .i64 (-1), .int .i64 0, .int .i64 0, .int .i64 0, .int .i64 0] 87); simp only [World.size_alloc] at this; exact this)
  have k4 : ((((w.alloc (.cells #[.slice a G.n cap] 24)).alloc (.cells #[.int .i64 0] 29)).alloc (.cells #[.int .i64 (-1), .int .i64 0, .int .i64 0, .int .i64 0, .int .i64 0] 87)).alloc (.cells #[.slice a G.n cap] 24)).cell? ⟨w.heap.size + 1 + 1 + 1, 0, none⟩ = some (.slice a G.n cap) := by
    have := heap_alloc_last (((w.alloc (.cells #[.slice a G.n cap] 24)).alloc (.cells #[.int .i64 0] 29)).alloc (.cells #[.int .i64 (-1), .int .i64 0, .int .i64 0, .int .i64 0, .int .i64 0] 87)) (.cells #[.slice a G.n cap] 24)
    simp only [World.size_alloc] at this
    rw [cell_of_row _ _ _ _ _ _ this]; rfl
  generalize ((((w.alloc (.cells #[.slice a G.n cap] 24)).alloc (.cells #[.int .i64 0] 29)).alloc (.cells #[.int .i64 (-1), .int .i64 0, .int .i64 0, .int .i64 0, .int .i64 0] 87)).alloc (.cells #[.slice a G.n cap] 24)) = W0 at *
  refine wpIn_rangeFunc_ownH rfl (by omega) (gf := 124) (lb := #[.pointer (some ⟨w.heap.size + 1 + 1 + 1, 0, none⟩)]) rfl trivial (enters_of Try.func124 (by kernel_rfl) rfl)
    (faces_stops 5 (by omega) (w.heap.size + 1 + 1 + 1) W0.heap.size G _ W0 (by omega) (by omega) (Nat.le_refl _) k4 ((hG0.out.below hB0).mono (by omega))) belowK_t (belowK_b (Nat.le_refl _)) (Below.refl _ _) (fun _ => rfl)
    (fun pre W => (∀ x ∈ pre, okB G x.val = true) ∧ Below W0.heap.size W0 W)
    (fun c pre W => ((c = .ret ∧ ∃ x ∈ pre, okB G x.val = false) ∧ W.heap[w.heap.size + 1]? = some (.cells #[.int .i64 7] 29 (0, 0))) ∧ Below w.heap.size w W)
    (OwnFrom.and (ownFrom_pure _ _) (ownFrom_below (Nat.le_refl _) (Nat.le_refl _)))
    (fun c => OwnFrom.and (OwnFrom.and (ownFrom_pure _ _) (Own.from (blk_own _ _ _) _)) (ownFrom_below (Nat.le_refl _) (by omega)))
    ⟨by simp, Below.refl _ _⟩
    (fun x a' W => ∃ b4 b5, W.heap[b4]? = some (.cells #[.int .i64 ((x.val / 4 : Nat) : Int), .int .i64 ((x.val % 4 : Nat) : Int)] 170 (0, 0)) ∧ W.heap[b5]? = some (.cells (faceA G x.val) 87 (0, 0)) ∧ a' = { tmps := ((Value.agg #[.slice a G.n cap]) :: (Value.pointer (some ⟨w.heap.size, 0, none⟩)) :: (Value.pointer (some ⟨w.heap.size + 1, 0, none⟩)) :: (Value.pointer (some ⟨w.heap.size + 1 + 1, 0, none⟩)) :: (Value.pointer (some ⟨b4, 0, none⟩)) :: (Value.pointer (some ⟨b5, 0, none⟩)) :: (Value.pointer (some ⟨w.heap.size, 0, none⟩)) :: (Value.slice a G.n cap) :: (Value.int .i64 G.n) :: (Value.bool (decide (1000 < (G.n : Int)))) :: (Value.agg #[.int .i64 (-1), .int .i64 0, .int .i64 0, .int .i64 0, .int .i64 0]) :: (Value.agg #[.slice a G.n cap]) :: (Value.func (.func 124) #[] #[.pointer (some ⟨w.heap.size + 1 + 1 + 1, 0, none⟩)]) :: (Value.agg #[.int .i64 ((x.val / 4 : Nat) : Int), .int .i64 ((x.val % 4 : Nat) : Int)]) :: (Value.agg (faceA G x.val)) :: undef :: undef :: undef :: undef :: undef :: undef :: undef :: undef :: undef :: undef :: undef :: undef :: undef :: undef :: undef :: undef :: undef :: undef :: undef :: undef :: undef :: undef :: undef :: undef :: undef :: undef :: undef :: undef :: undef :: undef :: undef :: undef :: undef :: undef :: undef :: undef :: undef :: undef :: undef :: undef :: undef :: undef :: undef :: undef :: undef :: undef :: undef :: undef :: undef :: undef :: undef :: undef :: undef :: undef :: undef :: undef :: ([] : List Value)).toArray, defers := [] })
    (fun x a' _ X Y row hs hg hr => by
      obtain ⟨b4, b5, e1, e2, e3⟩ := hs
      exact ⟨b4, b5, blk_own (β := Unit) b4 _ _ () X Y row e1 hg (fun r e => (hr r e).2), blk_own (β := Unit) b5 _ _ () X Y row e2 hg (fun r e => (hr r e).2), e3⟩)
    ?assign ?body ?done ?stop
  case assign =>
    rintro l pre x W K ⟨hp, hB1⟩ hK
    unfold encF faceA at *
    generalize x.val / 4 = t at *
    generalize x.val % 4 = f at *
    have HK := Lib.hid hK; clear hK
    gi_wp2
    have hw1 := heap_alloc_last (W.alloc (.cells #[.int .i64 (t : Int), .int .i64 (f : Int)] 170)) (.cells #[.int .i64 (G.tet x.val), .int .i64 (G.pm x.val 0), .int .i64 (G.pm x.val 1), .int .i64 (G.pm x.val 2), .int .i64 (G.pm x.val 3)] 87)
    rw [World.size_alloc] at hw1
    have hw0 := (Below.heap_alloc (W.alloc (.cells #[.int .i64 (t : Int), .int .i64 (f : Int)] 170)) (.cells #[.int .i64 (G.tet x.val), .int .i64 (G.pm x.val 0), .int .i64 (G.pm x.val 1), .int .i64 (G.pm x.val 2), .int .i64 (G.pm x.val 3)] 87) W.heap.size (by simp)).trans (heap_alloc_last W _)
    have hbW : Below W.heap.size W ((W.alloc (.cells #[.int .i64 (t : Int), .int .i64 (f : Int)] 170)).alloc (.cells #[.int .i64 (G.tet x.val), .int .i64 (G.pm x.val 0), .int .i64 (G.pm x.val 1), .int .i64 (G.pm x.val 2), .int .i64 (G.pm x.val 3)] 87)) := by (repeat' (first | assumption | exact Below.refl _ _ | refine below_then ?_ (by assumption) | refine below_al ?_ _ | refine below_dr ?_ | refine below_sc ?_ (by simp <;> omega) _))
    exact HK.out _ _ (below_keeps hbW) (hbW.mono hB1.size) ⟨hp, below_then hB1 hbW⟩ ⟨_, _, hw0, hw1, rfl⟩
  case body =>
    rintro l pre x a' W hl ⟨r, hr⟩ ⟨hp, hB1⟩ ⟨b4, b5, q4, q5, rfl⟩ hlt
    have q1 := (hB1.block _ (by omega)).trans k1
    have q2 := (hB1.block _ (by omega)).trans k2
    have q3 := (hB1.block _ (by omega)).trans k3
    have hBw : Below w.heap.size w W := hB0.trans (hB1.mono hB0.size)
    have hf4 : x.val % 4 < 4 := Nat.mod_lt _ (by omega)
    have hN : okB G x.val = true → ∀ a' W', Below W.heap.size W W' → ownPostG W0.heap.size (Below W0.heap.size) (fun pre W => (∀ x ∈ pre, okB G x.val = true) ∧ Below W0.heap.size W0 W) (fun c pre W => ((c = .ret ∧ ∃ x ∈ pre, okB G x.val = false) ∧ W.heap[w.heap.size + 1]? = some (.cells #[.int .i64 7] 29 (0, 0))) ∧ Below w.heap.size w W) (pre ++ [x]) W .normal a' W' := fun hok a' W' hb =>
      ⟨below_keeps hb, hb.mono hB1.size, fun y hy => by
        rcases List.mem_append.1 hy with h | h
        · exact hp y h
        · simp at h; subst h; exact hok, hB1.trans (hb.mono hB1.size)⟩
    have hR : okB G x.val = false → ∀ a' W', Below W.heap.size W W' → ownPostG W0.heap.size (Below W0.heap.size) (fun pre W => (∀ x ∈ pre, okB G x.val = true) ∧ Below W0.heap.size W0 W) (fun c pre W => ((c = .ret ∧ ∃ x ∈ pre, okB G x.val = false) ∧ W.heap[w.heap.size + 1]? = some (.cells #[.int .i64 7] 29 (0, 0))) ∧ Below w.heap.size w W) (pre ++ [x]) W .ret a' (W'.setCell ⟨w.heap.size + 1, 0, none⟩ (.int .i64 7)) := fun hok a' W' hb =>
      ⟨keeps_setCell (below_keeps hb) _ _, ⟨⟨rfl, x, by simp, hok⟩, Boxed.set _ (show Boxed W' (w.heap.size + 1) 29 (.int .i64 0) from (hb.block _ (by have := hB1.size; omega)).trans q2)⟩, below_sc (below_then hBw hb) (by simp) _⟩
    have x0 := cell_blk (j := 0) q5 rfl
    have x1 := cell_blk (j := 1) q5 rfl
    have x2 := cell_blk (j := 2) q5 rfl
    have x3 := cell_blk (j := 3) q5 rfl
    have x4 := cell_blk (j := 4) q5 rfl
    have y0 := cell_blk (j := 0) q3 rfl
    have y1 := cell_blk (j := 1) q3 rfl
    have y2 := cell_blk (j := 2) q3 rfl
    have y3 := cell_blk (j := 3) q3 rfl
    have y4 := cell_blk (j := 4) q3 rfl
    have z0 := cell_blk (j := 0) q4 rfl
    have z1 := cell_blk (j := 1) q4 rfl
    have r0 := cell_blk (j := 0) q2 rfl
    have rf := frozen_blk (j := 0) q2
    have v0 := cell_blk (j := 0) q1 rfl
    have e57 : ∀ c : Code, bodyOf Try.f57 = c → bodyOf Try.f57 = c := fun _ h => h
    by_cases hno : noneB G x.val = true
    · exact check_body_none hno (hN (by simp [okB, hno])) x0 x1 x2 x3 x4 y0 y1 y2 y3 y4
    · have hno' : noneB G x.val = false := by simpa using hno
      by_cases h0 : 0 ≤ G.tet x.val
      · by_cases h1 : G.tet x.val < (G.n : Int)
        · by_cases hv : validF (G.pm x.val) = true
          · by_cases hsf : selfB G x.val = true
            · have hs2 := hsf
              simp only [selfB, Bool.and_eq_true] at hs2
              exact check_body_self hno' hf4 h0 h1 hv hs2.1 hs2.2 (hR (by simp [okB, hno', hsf])) x0 x1 x2 x3 x4 y0 y1 y2 y3 y4 z0 z1 r0 rf v0
            · have hsf : selfB G x.val = false := by simpa using hsf
              have hin := inB_iff.1 (all4_iff.1 (by simp only [validF, Bool.and_eq_true] at hv; exact hv.1 : all4 (fun i => inB (G.pm x.val i)) = true) (x.val % 4) hf4)
              have hy : 0 ≤ G.pm x.val (x.val % 4) ∧ G.pm x.val (x.val % 4) < 4 := by omega
              obtain ⟨rfl, hb⟩ := hga (by have := x.isLt; omega)
              have hj : G.back x.val < 4 * G.n := by unfold Gl.back; omega
              have hcj := HC.out (G.back x.val) hj
              have ea : off + 5 * G.back x.val = off + (G.tet x.val).toNat * 20 + (G.pm x.val (x.val % 4)).toNat * 5 := by unfold Gl.back; omega
              rw [ea] at hcj
              have g0 := (hBw.cell (p := ⟨b, _, none⟩) hb).trans hcj.1
              have g1 := (hBw.cell (p := ⟨b, _, none⟩) hb).trans (hcj.2 0 (by omega))
              have g2 := (hBw.cell (p := ⟨b, _, none⟩) hb).trans (hcj.2 1 (by omega))
              have g3 := (hBw.cell (p := ⟨b, _, none⟩) hb).trans (hcj.2 2 (by omega))
              have g4 := (hBw.cell (p := ⟨b, _, none⟩) hb).trans (hcj.2 3 (by omega))
              have xf : W.cell? ⟨b5, 1 + x.val % 4, none⟩ = some (.int .i64 (G.pm x.val (x.val % 4))) := by
                have h4 : x.val % 4 = 0 ∨ x.val % 4 = 1 ∨ x.val % 4 = 2 ∨ x.val % 4 = 3 := by omega
                rcases h4 with h | h | h | h <;> rw [h]
                · exact x1
                · exact x2
                · exact x3
                · exact x4
              have hnn : (G.tet x.val == -1 && (G.pm x.val 0 == 0 && (G.pm x.val 1 == 0 && (G.pm x.val 2 == 0 && G.pm x.val 3 == 0)))) = false := by simpa [noneB, all4, Bool.and_assoc] using hno'
              have hme : (G.tet (G.back x.val) == ((x.val / 4 : Nat) : Int) && (G.pm (G.back x.val) 0 == invF (G.pm x.val) 0 && (G.pm (G.back x.val) 1 == invF (G.pm x.val) 1 && (G.pm (G.back x.val) 2 == invF (G.pm x.val) 2 && G.pm (G.back x.val) 3 == invF (G.pm x.val) 3)))) = matchB G x.val := by
                simp only [matchB, all4, Bool.and_assoc]; rfl
              by_cases hm : matchB G x.val = true
              · have hmm := hme.trans hm
                by_cases e1 : (G.tet x.val == ((x.val / 4 : Nat) : Int)) = true
                · have e2 : (G.pm x.val (x.val % 4) == ((x.val % 4 : Nat) : Int)) = false := by simp only [selfB, e1, Bool.true_and] at hsf; exact hsf
                  exact check_body_same_ok (G.back x.val) hf4 h0 h1 hy.1 hy.2 hn hnn hv e1 e2 hmm (hN (by have hv' : validF (G.p x.val) = true := hv; simp [okB, hno', inTetB, h0, h1, hv', hsf, hm])) x0 x1 x2 x3 x4 y0 y1 y2 y3 y4 z0 z1 r0 rf v0 xf g0 g1 g2 g3 g4
                · have e1 : (G.tet x.val == ((x.val / 4 : Nat) : Int)) = false := by simpa using e1
                  exact check_body_other_ok (G.back x.val) hf4 h0 h1 hy.1 hy.2 hn hnn hv e1 hmm (hN (by have hv' : validF (G.p x.val) = true := hv; simp [okB, hno', inTetB, h0, h1, hv', hsf, hm])) x0 x1 x2 x3 x4 y0 y1 y2 y3 y4 z0 z1 r0 rf v0 xf g0 g1 g2 g3 g4
              · have hm : matchB G x.val = false := by simpa using hm
                have hmm := hme.trans hm
                by_cases e1 : (G.tet x.val == ((x.val / 4 : Nat) : Int)) = true
                · have e2 : (G.pm x.val (x.val % 4) == ((x.val % 4 : Nat) : Int)) = false := by simp only [selfB, e1, Bool.true_and] at hsf; exact hsf
                  exact check_body_same_bad (G.back x.val) hf4 h0 h1 hy.1 hy.2 hn hnn hv e1 e2 hmm (hR (by have hv' : validF (G.p x.val) = true := hv; simp [okB, hno', inTetB, h0, h1, hv', hsf, hm])) x0 x1 x2 x3 x4 y0 y1 y2 y3 y4 z0 z1 r0 rf v0 xf g0 g1 g2 g3 g4
                · have e1 : (G.tet x.val == ((x.val / 4 : Nat) : Int)) = false := by simpa using e1
                  exact check_body_other_bad (G.back x.val) hf4 h0 h1 hy.1 hy.2 hn hnn hv e1 hmm (hR (by have hv' : validF (G.p x.val) = true := hv; simp [okB, hno', inTetB, h0, h1, hv', hsf, hm])) x0 x1 x2 x3 x4 y0 y1 y2 y3 y4 z0 z1 r0 rf v0 xf g0 g1 g2 g3 g4
          · have hv : validF (G.pm x.val) = false := by simpa using hv
            exact check_body_inval hno' h0 h1 hv (hR (by have : validF (G.p x.val) = false := hv; simp [okB, hno', this])) x0 x1 x2 x3 x4 y0 y1 y2 y3 y4 z0 z1 r0 rf v0
        · exact check_body_big hno' h0 (by omega) (hR (by simp [okB, hno', inTetB, h1])) x0 x1 x2 x3 x4 y0 y1 y2 y3 y4 z0 z1 r0 rf v0
      · exact check_body_neg hno' (by omega) (hR (by simp [okB, hno', inTetB, h0])) x0 x1 x2 x3 x4 y0 y1 y2 y3 y4 z0 z1 r0 rf v0
  case done =>
    rintro D xs W hD hS ⟨hp, hB1⟩ hK
    have q2 := (hB1.block _ (by omega)).trans k2
    have r0 := cell_blk (j := 0) q2 rfl
    have rf := frozen_blk (j := 0) q2
    have hBw : Below w.heap.size w W := hB0.trans (hB1.mono hB0.size)
    have hck : checkI G = 0 := by
      have : checkB G = true := by
        simp only [checkB, Bool.and_eq_true, decide_eq_true_eq, List.all_eq_true]
        refine ⟨hn, fun y hy => ?_⟩
        rw [← hS] at hy
        obtain ⟨z, hz, rfl⟩ := List.mem_map.1 hy
        exact hp z hz
      simp [checkI, this]
    gi_wp2
    have hK' := (KeepsOthers.setCell W ⟨w.heap.size + 1, 0, none⟩ (.int .i64 0)).same D _ hK rfl
    refine ⟨by simp, .inl ⟨_, _, rfl, run_takeDeferred hK', ?_⟩⟩
    have hc5 := cell_kept (Boxed.set (Value.int .i64 0) (show Boxed W (w.heap.size + 1) 29 (.int .i64 0) from q2)).cell (grownBy_putObj' _ D (.deferred none)) (fun r e => by cases e; exact ⟨_, hK', rfl⟩)
    refine ⟨.int .i64 0, ?_, by rw [hck], (hBw.setCell (p := ⟨w.heap.size + 1, 0, none⟩) (by simp) _).trans (belowK_b (w := w) (Nat.le_refl _) _ D _ _ (by omega) hK' rfl rfl)⟩
    simp [results, Try.f57, go_sem, hc5]
  case stop =>
    rintro D c pre W hD ⟨k, hk, hpre⟩ ⟨⟨⟨rfl, x, hx, hx2⟩, q2⟩, hBw⟩ hK
    have hck : checkI G = 7 := by
      have : checkB G = false := by
        rw [← Bool.not_eq_true]
        intro h
        simp only [checkB, Bool.and_eq_true, decide_eq_true_eq, List.all_eq_true] at h
        have := h.2 x.val (List.mem_range.2 x.isLt)
        rw [this] at hx2
        cases hx2
      simp [checkI, this]
    gi_wp2
    refine ⟨by simp, .inl ⟨_, _, rfl, run_takeDeferred hK, ?_⟩⟩
    have hc5 := cell_kept (Boxed.cell (show Boxed W (w.heap.size + 1) 29 (.int .i64 7) from q2)) (grownBy_putObj' _ D (.deferred none)) (fun r e => by cases e; exact ⟨_, hK, rfl⟩)
    refine ⟨.int .i64 7, ?_, by rw [hck], hBw.trans (belowK_b (w := w) (Nat.le_refl _) W D _ _ (by omega) hK rfl rfl)⟩
    simp [results, Try.f57, go_sem, hc5]

/-- glue.Check, of every gluing: 0 if it is valid, 7 if not; nothing that was there has changed -/
theorem Check_walk (G : Gl) (v : Value) (w : World) (hG : GlAt w.heap.size w v G) (hm : G.n ≤ 9223372036854775807) :
    Calls Try.prog 57 #[.agg #[v]] w fun e w' => e = .returned (.int .i64 (checkI G)) ∧ Below w.heap.size w w' := by
  by_cases hn : G.n ≤ 1000
  · exact callsIn_wide.1 (Check_small G v w hG hn)
  · have : checkI G = 7 := by simp [checkI, checkB, hn]
    rw [this]
    exact Check_large G v w hG (by omega) hm
end Go.Proofs.Ytlckpgahijlmoaa
namespace Go.Proofs.Ytlckpgahijlmoaa
open Go.RowKit

/-- the caller's invariant does not mind what the iterator does to blocks of its own (Ok) -/
def AbidesOk {β : Type} (Ok : World → Nat → Prop) (Al : Nat → Prop) (B : Nat) (J : β → World → Prop) : Prop :=
  ∀ s W W' row, J s W → W.grownBy W' row → (∀ r, row = some r → (B ≤ r ∨ Al r) ∧ Ok W r) → J s W'
/-- the iterator's contract: it is told a bound on what has come ('lim'), which the loop keeps -/
def SeqLim {α : Type} (n : Nat) (P : Program) (g : Nat) (lb : Array Value) (encs : α → Array Value) (Ok : World → Nat → Prop) (Al : Nat → Prop) (Kp : World → World → Prop) (lim S Sp : List α → Prop) (Nb : Nat) (w : World) : Prop :=
  ∀ (l : Nat) (J Jx : List α → World → Prop) (W : World), Below w.heap.size w W → AbidesOk Ok Al W.heap.size J → AbidesOk Ok Al W.heap.size Jx → (∀ pre W, J pre W → lim pre) →
    (∀ pre x W1, J pre W1 → pre.length ≤ Nb → YieldAt Fence.wide (n - 1) P l (encs x) W1 fun e W' =>
      (e = .returned (.bool true) ∧ J (pre ++ [x]) W' ∧ Kp W1 W') ∨ (e = .returned (.bool false) ∧ Jx (pre ++ [x]) W')) →
    J [] W →
    CallsIn Fence.wide n P g (#[.func (.yield l) #[] #[]] ++ lb) W fun e W' => (∃ v, e = .returned v) ∧ ((∃ xs, S xs ∧ J xs W') ∨ (∃ pre, Sp pre ∧ Jx pre W'))

theorem wpIn_rangeLim {α : Type} {P : Program} {n : Nat} {g : Operand} {ps : Array Tmp} {assign body : Code} {Q : Exit → Act → World → Prop} {a : Act} {w : World} (h1 : 1 ≤ n) {gf : Nat} {lb : Array Value}
    (hg : a.eval g = .func (.func gf) #[] lb) (eg : ∀ args w, (callFunc gf args).run P w = .ok (.enter gf args) w)
    {encs : α → Array Value} {Ok : World → Nat → Prop} {Al : Nat → Prop} {Kp : World → World → Prop} {lim S Sp : List α → Prop} {Nb : Nat} {w0 : World} (hseq : SeqLim (n - 1) P gf lb encs Ok Al Kp lim S Sp Nb w0) (hAl : ∀ r, Al r → r < w.heap.size) (hKt : ∀ {A B C : World}, Kp A B → Kp B C → Kp A C) (hKb : ∀ (W : World) (l : Nat) (r r' : Loop), w.heap.size ≤ l → W.heap[l]? = some (.loop r) → Kp W (W.putObj l (.loop r'))) (hb0 : Below w0.heap.size w0 w) (hps : ∀ x, (encs x).size = ps.size)
    (I : List α → World → Prop) (Ix : List α → World → Prop) (hlim : ∀ pre W, I pre W → lim pre) (hI : OwnFrom w.heap.size I) (hIx : OwnFrom w.heap.size Ix) (hIo : AbidesOk Ok Al w.heap.size I) (hIxo : AbidesOk Ok Al w.heap.size Ix) (h0 : I [] w) (Ax : α → Act → World → Prop) (hAx : ∀ x a', OwnFrom w.heap.size (fun (_ : Unit) W => Ax x a' W))
    (hassign : ∀ (l : Nat) (pre : List α) (x : α) (W : World) (K : Act → World → Prop), I pre W → (∀ a' W', KeepsFrom w.heap.size W W' → Kp W W' → I pre W' → Ax x a' W' → K a' W') →
      assign.wpIn (Fence.wide.inRound l) (n - 1 - 1) P (Exit.then K (fun _ _ _ => False)) { tmps := (ps.zip (encs x)).foldl (fun t (p, v) => t.setIfInBounds p v) a.tmps, defers := [] } W)
    (hbody : ∀ (l : Nat) (pre : List α) (x : α) (a' : Act) (W : World), w.heap.size ≤ l → I pre W → Ax x a' W → pre.length ≤ Nb → body.wpIn (Fence.wide.inRound l) (n - 1 - 1) P
      (fun e _ W' => (e = .normal ∧ KeepsFrom w.heap.size W W' ∧ Kp W W' ∧ I (pre ++ [x]) W') ∨ (e = .ret ∧ KeepsFrom w.heap.size W W' ∧ Ix (pre ++ [x]) W')) a' W)
    (hdone : ∀ (D : Nat) (xs : List α) (W : World), w.heap.size ≤ D → S xs → I xs W → W.heap[D]? = some (.deferred (some [])) → Q .normal { a with defers := { target := .collected D, args := #[] } :: a.defers } W)
    (hstop : ∀ (D : Nat) (pre : List α) (W : World), w.heap.size ≤ D → Sp pre → Ix pre W → W.heap[D]? = some (.deferred (some [])) → Code.ret.wpIn Fence.wide n P Q { a with defers := { target := .collected D, args := #[] } :: a.defers } W) :
    (Code.rangeFunc g ps assign body).wpIn Fence.wide n P Q a w := by
  refine wpIn_rangeFunc fun fn hfn => ?_
  let D := w.heap.size
  let rc : LoopState → Option Code → Loop := fun st pe => { state := st, pending := pe, fn, tmps := a.tmps, params := ps, assign, body, defers := D }
  let W1 := (w.alloc (.deferred (some []))).alloc (.loop (rc .ready none))
  have eL : W1.heap[D + 1]? = some (.loop (rc .ready none)) := by
    have := World.alloc_heap_new (w.alloc (.deferred (some []))) (.loop (rc .ready none))
    rwa [World.size_alloc] at this
  have eD : W1.heap[D]? = some (.deferred (some [])) := (Below.heap_alloc _ _ _ (by simp [D])).trans (World.alloc_heap_new w _)
  have sW : W1.heap.size = D + 2 := by simp [W1, D]
  have bW : Below w0.heap.size w0 W1 := hb0.trans ((((Below.refl _ w).alloc (Nat.le_refl _) _).alloc (by simp) _).mono hb0.size)
  have far : ∀ {A B : World} {row : Option Nat}, A.grownBy B row → (∀ r, row = some r → (W1.heap.size ≤ r ∨ Al r) ∧ Ok A r) → ∀ k o, D ≤ k → k < W1.heap.size → A.heap[k]? = some o → B.heap[k]? = some o := fun hg hr k o hD hk ho =>
    (hg.block k (Array.getElem?_eq_some_iff.1 ho).1 (fun e => by
      rcases (hr k e.symm).1 with h | h
      · omega
      · have := hAl k h; have : D = w.heap.size := rfl; omega)).trans ho
  refine ⟨D + 1, [{ target := .collected D, args := #[] }], W1, { target := .fn (.func gf) lb, args := #[.func (.yield (D + 1)) #[] #[]] }, W1, gf, #[.func (.yield (D + 1)) #[] #[]] ++ lb, W1,
    run_enterLoop_outer _ _ _ _ _, ?_, fun f' _ => trivial, ?_, fun _ => h1, ?_⟩
  · simp only [resolve, hg]; simp [go_sem]
  · simp [invoke, go_sem, eg]
  refine (hseq (D + 1) (fun pre W => I pre W ∧ W.heap[D + 1]? = some (.loop (rc .ready none)) ∧ W.heap[D]? = some (.deferred (some [])))
    (fun pre W => Ix pre W ∧ W.heap[D + 1]? = some (.loop (rc .done (some .ret))) ∧ W.heap[D]? = some (.deferred (some []))) W1 bW ?_ ?_ (fun pre W h => hlim pre W h.1) ?_ ⟨hI.alloc _ (hI.alloc _ h0), eL, eD⟩).mono ?_
  · intro s A B row hs hg' hr
    exact ⟨hIo s A B row hs.1 hg' (fun r e => ⟨(hr r e).1.imp (fun h => by show D ≤ r; omega) id, (hr r e).2⟩), far hg' hr _ _ (by omega) (by omega) hs.2.1, far hg' hr _ _ (by omega) (by omega) hs.2.2⟩
  · intro s A B row hs hg' hr
    exact ⟨hIxo s A B row hs.1 hg' (fun r e => ⟨(hr r e).1.imp (fun h => by show D ≤ r; omega) id, (hr r e).2⟩), far hg' hr _ _ (by omega) (by omega) hs.2.1, far hg' hr _ _ (by omega) (by omega) hs.2.2⟩
  · intro pre x W hJ hNb
    obtain ⟨hi, hl, hk⟩ := hJ
    refine ⟨fn, _, assign, body, run_yield (P := P) (args := encs x) hl (hps x), roundIn_of_wpIn hfn (hassign _ pre x W _ hi fun a' V kV bV iV aV => ?_)⟩
    have lV := kV.same _ _ (by show D ≤ D + 1; omega) hl rfl
    have dV := kV.same _ _ (Nat.le_refl _) hk rfl
    have sV : D + 1 < V.heap.size := (Array.getElem?_eq_some_iff.1 lV).1
    refine ⟨_, run_beginRound lV rfl, ?_⟩
    have lU : (V.putObj (D + 1) (.loop { rc .ready none with state := .busy })).heap[D + 1]? = some (.loop { rc .ready none with state := .busy }) := World.putObj_heap_same sV
    have dU : (V.putObj (D + 1) (.loop { rc .ready none with state := .busy })).heap[D]? = some (.deferred (some [])) := (World.putObj_heap_other (by omega)).trans dV
    have bU : Kp V (V.putObj (D + 1) (.loop { rc .ready none with state := .busy })) := hKb _ _ _ _ (by show D ≤ D + 1; omega) lV
    have last : ∀ (j : Option Code) (X : World), KeepsFrom D (V.putObj (D + 1) (.loop { rc .ready none with state := .busy })) X →
        (Instr.endRound (D + 1) j).run P X = .ok (.bool j.isNone) (X.putObj (D + 1) (.loop (rc (if j.isNone then .ready else .done) j))) ∧ X.heap[D + 1]? = some (.loop { rc .ready none with state := .busy }) ∧
        (X.putObj (D + 1) (.loop (rc (if j.isNone then .ready else .done) j))).heap[D + 1]? = some (.loop (rc (if j.isNone then .ready else .done) j)) ∧
        (X.putObj (D + 1) (.loop (rc (if j.isNone then .ready else .done) j))).heap[D]? = some (.deferred (some [])) := fun j X kX => by
      have lX := kX.same _ _ (by omega) lU rfl
      exact ⟨run_endRound (P := P) j lX, lX, World.putObj_heap_same (Array.getElem?_eq_some_iff.1 lX).1, (World.putObj_heap_other (by omega)).trans (kX.same _ _ (Nat.le_refl _) dU rfl)⟩
    refine wpIn_mono (hbody _ pre x a' _ (by show D ≤ D + 1; omega) (hI.putObj _ iV (by show D ≤ D + 1; omega) lV rfl) ((hAx x a').putObj (s := ()) _ aV (by show D ≤ D + 1; omega) lV rfl) hNb) ?_
    rintro e a3 X (⟨rfl, kX, bX, iX⟩ | ⟨rfl, kX, iX⟩)
    · obtain ⟨r1, r2, r3, r4⟩ := last none X kX
      exact ⟨_, _, r1, .inl ⟨rfl, ⟨hI.putObj _ iX (by show D ≤ D + 1; omega) r2 rfl, r3, r4⟩, hKt bV (hKt bU (hKt bX (hKb _ _ _ _ (by show D ≤ D + 1; omega) r2)))⟩⟩
    · obtain ⟨r1, r2, r3, r4⟩ := last (some .ret) X kX
      exact ⟨_, _, r1, .inr ⟨rfl, hIx.putObj _ iX (by show D ≤ D + 1; omega) r2 rfl, r3, r4⟩⟩
  · rintro e X ⟨⟨v, rfl⟩, (⟨xs, hS, hi, hl, hk⟩ | ⟨pre, hSp, hi, hl, hk⟩)⟩
    · exact ⟨none, _, run_endLoop (P := P) hl (by simp [rc]), hdone _ xs _ (Nat.le_refl _) hS (hI.putObj _ hi (by show D ≤ D + 1; omega) hl rfl) ((World.putObj_heap_other (by omega)).trans hk)⟩
    · exact ⟨some .ret, _, run_endLoop (P := P) hl (by simp [rc]), hstop _ pre _ (Nat.le_refl _) hSp (hIx.putObj _ hi (by show D ≤ D + 1; omega) hl rfl) ((World.putObj_heap_other (by omega)).trans hk)⟩
end Go.Proofs.Ytlckpgahijlmoaa
