/- R01.Check of every gluing: 0 or 7. No condition. -/
import Derived.Test.YtlckpgahijlmoaaQ22
namespace Go.Proofs.Ytlckpgahijlmoaa
open Go.RowKit Go.Shelf Go.Sort

theorem checkI_bad {G : Gl} {k : Nat} (hk : k < 4 * G.n) (h : okB G k = false) : checkI G = 7 := by
  have : checkB G = false := by
    rw [checkB, all_range_false hk h, Bool.and_false]
  rw [checkI, this]; rfl
theorem checkI_large {G : Gl} (h : 1000 < G.n) : checkI G = 7 := by
  have : checkB G = false := by
    rw [checkB, decide_eq_false (by omega), Bool.false_and]
  rw [checkI, this]; rfl
theorem checkI_all {G : Gl} (hn : G.n ≤ 1000) (h : ∀ k, k < 4 * G.n → okB G k = true) : checkI G = 0 := by
  have : checkB G = true := by
    rw [checkB, decide_eq_true hn, Bool.true_and, List.all_eq_true]
    exact fun k hk => h k (List.mem_range.1 hk)
  rw [checkI, this]; rfl
/-- both say: a permutation -/
theorem valid_same (p : Nat → Int) : validR p = validF p := by
  by_cases h : ∀ i, i < 4 → inB (p i) = true
  · have key : ∀ a b c d : Fin 4, ∀ q : Nat → Int, q 0 = (a.val : Int) → q 1 = (b.val : Int) → q 2 = (c.val : Int) → q 3 = (d.val : Int) → validR q = validF q := by
      intro a b c d q h0 h1 h2 h3
      have e : ∀ a b c d : Fin 4, validR (fun i => if i = 0 then (a.val : Int) else if i = 1 then (b.val : Int) else if i = 2 then (c.val : Int) else (d.val : Int)) = validF (fun i => if i = 0 then (a.val : Int) else if i = 1 then (b.val : Int) else if i = 2 then (c.val : Int) else (d.val : Int)) := by decide +kernel
      have v1 : validR q = validR (fun i => if i = 0 then (a.val : Int) else if i = 1 then (b.val : Int) else if i = 2 then (c.val : Int) else (d.val : Int)) := by
        simp [validR, seenF, List.range_succ, h0, h1, h2, h3]
      have v2 : validF q = validF (fun i => if i = 0 then (a.val : Int) else if i = 1 then (b.val : Int) else if i = 2 then (c.val : Int) else (d.val : Int)) := by
        simp [validF, all4, maskF, h0, h1, h2, h3]
      rw [v1, v2, e]
    have g := fun i hi => inB_iff.1 (h i hi)
    have g0 := g 0 (by omega); have g1 := g 1 (by omega); have g2 := g 2 (by omega); have g3 := g 3 (by omega)
    exact key ⟨(p 0).toNat, by omega⟩ ⟨(p 1).toNat, by omega⟩ ⟨(p 2).toNat, by omega⟩ ⟨(p 3).toNat, by omega⟩ p (by simp; omega) (by simp; omega) (by simp; omega) (by simp; omega)
  · have h1 : validR p = false := by
      rw [Bool.eq_false_iff]; intro hv; exact h (validR_in hv)
    have h2 : validF p = false := by
      rw [Bool.eq_false_iff]; intro hv
      simp only [validF, Bool.and_eq_true] at hv
      exact h (all4_iff.1 hv.1)
    rw [h1, h2]

set_option maxRecDepth 100000 in
set_option maxHeartbeats 2000000 in
theorem checkRI_walk (G : Gl) (w : World) (v : Value) (hG : GlAt w.heap.size w v G) (hm : G.n ≤ 9223372036854775807) :
    Calls Try.prog 24 #[.agg #[v]] w fun e w' => e = .returned (.int .i64 (checkI G)) ∧ Below w.heap.size w w' := by
  obtain ⟨a, b, off, cap, rfl, hga, hgc⟩ := hG
  have HGC := Lib.hid (And.intro hga hgc); clear hga hgc
  rcases Nat.lt_or_ge 1000 G.n with hbig | hn
  · have q0 : decide ((1000 : Int) < (G.n : Int)) = true := by simp; omega
    have HBAD := Lib.hid (checkI_large hbig)
    clear hbig
    go_enter Try.func24, Try.ntmps24
    go_wp2
    go_ret
    exact ⟨by rw [HBAD.out]; rfl, by (repeat' (first | assumption | exact Below.refl _ _ | refine below_then ?_ (by assumption) | refine below_al ?_ _ | refine below_dr ?_ | refine below_sc ?_ (by simp <;> omega) _))⟩
  go_enter Try.func24, Try.ntmps24
  go_wp2
  refine wp_named fun W1 hW => ?_
  have h1 : W1.cell? ⟨w.heap.size, 0, none⟩ = some (.slice a G.n cap) ∧ Below w.heap.size w W1 := by
    rw [hW]; exact ⟨by simp [go_sem], by (repeat' (first | assumption | exact Below.refl _ _ | refine below_then ?_ (by assumption) | refine below_al ?_ _ | refine below_dr ?_ | refine below_sc ?_ (by simp <;> omega) _))⟩
  have H1 := Lib.hid h1; clear h1 hW
  obtain ⟨N, hN⟩ : ∃ N, w.heap.size = N := ⟨_, rfl⟩
  have HN := Lib.hid hN
  rw [hN] at H1 HGC ⊢
  clear hN
  go_loopw [4] (fun i wr => ∃ t : Nat, t ≤ G.n ∧ i = .int .i64 t ∧ (∀ k, k < 4 * t → okB G k = true) ∧ wr.cell? ⟨N, 0, none⟩ = some (.slice a G.n cap) ∧ Below N w wr) (fun i _ => G.n - (intOf i).toNat)
  case atStart => exact ⟨0, by omega, rfl, fun k hk => absurd hk (by omega), H1.out⟩
  case round =>
    clear H1
    obtain ⟨t, ht, rfl, hal, hc, hb⟩ := hrel
    have HAL := Lib.hid hal
    clear hal
    have HK := Lib.hid (And.intro hc hb)
    rcases Nat.lt_or_ge t G.n with htn | htn
    · obtain ⟨hga, hgc⟩ := HGC.out
      obtain ⟨rfl, hbB⟩ := hga (by omega)
      clear hc hb hga hgc
      go_wp2
      go_loopw [5] (fun i wr => ∃ f : Nat, f ≤ 4 ∧ i = .int .i64 f ∧ (∀ k, k < 4 * t + f → okB G k = true) ∧ wr.cell? ⟨N, 0, none⟩ = some (.slice (some ⟨b, off, none⟩) G.n cap) ∧ Below N w wr) (fun i _ => 4 - (intOf i).toNat)
      case atStart => exact ⟨0, by omega, rfl, HAL.out, HK.out⟩
      case round =>
        clear HK HAL
        obtain ⟨f, hf, rfl, hal, hc, hb⟩ := hrel
        have HAL := Lib.hid hal
        clear hal
        have HK := Lib.hid (And.intro hc hb)
        rcases Nat.lt_or_ge f 4 with hf4 | hf4
        · have hk : 4 * t + f < 4 * G.n := by omega
          obtain ⟨hga, hgc⟩ := HGC.out
          have hbN : ∀ o x, w.cell? ⟨b, o, none⟩ = some x → wr.cell? ⟨b, o, none⟩ = some x := fun o x hx => (hb.cell (p := ⟨b, o, none⟩) (by exact hbB)).trans hx
          have hkk := hgc (4 * t + f) hk
          rw [show off + 5 * (4 * t + f) = off + t * 20 + f * 5 by omega] at hkk
          have p := hbN _ _ hkk.1
          have p0 : wr.cell? ⟨b, off + t * 20 + f * 5 + 1, none⟩ = some (.int .i64 (G.pm (4 * t + f) 0)) := hbN _ _ (hkk.2 0 (by omega))
          have p1 : wr.cell? ⟨b, off + t * 20 + f * 5 + 2, none⟩ = some (.int .i64 (G.pm (4 * t + f) 1)) := hbN _ _ (hkk.2 1 (by omega))
          have p2 : wr.cell? ⟨b, off + t * 20 + f * 5 + 3, none⟩ = some (.int .i64 (G.pm (4 * t + f) 2)) := hbN _ _ (hkk.2 2 (by omega))
          have p3 : wr.cell? ⟨b, off + t * 20 + f * 5 + 4, none⟩ = some (.int .i64 (G.pm (4 * t + f) 3)) := hbN _ _ (hkk.2 3 (by omega))
          have t0 : 0 ≤ (t : Int) := by omega
          have tn : (t : Int) < (G.n : Int) := by omega
          have f0 : 0 ≤ (f : Int) := by omega
          have f4 : (f : Int) < 4 := by omega
          by_cases hno : noneB G (4 * t + f) = true
          · simp only [noneB, all4, Bool.and_eq_true, beq_iff_eq] at hno
            obtain ⟨n1, ⟨⟨n2, n3⟩, n4⟩, n5⟩ := hno
            rw [n1] at p
            rw [n2] at p0
            rw [n3] at p1
            rw [n4] at p2
            rw [n5] at p3
            have HOKK := Lib.hid (show okB G (4 * t + f) = true by simp [okB, noneB, all4, n1, n2, n3, n4, n5])
            have he : ∀ w, (Op.equalIn 10000 85 (.agg #[.int .i64 0, .int .i64 0, .int .i64 0, .int .i64 0]) (.agg #[.int .i64 0, .int .i64 0, .int .i64 0, .int .i64 0])).run Try.prog w = .ok true w := fun w => run_equal_P4r 9998 0 0 0 0 w
            clear hga hgc hbN hkk n1 n2 n3 n4 n5 hb
            go_wp2
            go_roundw
            case rel => exact ⟨f + 1, by omega, rfl, (fun k hk => by
                rcases Nat.lt_or_ge k (4 * t + f) with h | h
                · exact HAL.out k h
                · rw [show k = 4 * t + f by omega]; exact HOKK.out), cell_al HK.out.1 _, HK.out.2.alloc (by have := HK.out.2.size; have := HN.out; omega) _⟩
            case measure => simp [intOf]; omega
          · have hno' : noneB G (4 * t + f) = false := by simpa using hno
            have km : (4 * t + f) % 4 = f := by omega
            have kd : (4 * t + f) / 4 = t := by omega
            have HNO := Lib.hid hno'
            have hNwr : N ≤ wr.heap.size := by have := HK.out.2.size; have := HN.out; omega
            rcases Int.lt_or_le (G.tet (4 * t + f)) 0 with h0 | h0
            · have HBAD := Lib.hid (checkI_bad hk (show okB G (4 * t + f) = false by simp [okB, hno', inTetB]; omega))
              have d0 : decide (G.tet (4 * t + f) < 0) = true := by simpa using h0
              by_cases hm1 : G.tet (4 * t + f) = -1
              · have he : ∀ w, (Op.equalIn 10000 85 (.agg #[.int .i64 (G.pm (4 * t + f) 0), .int .i64 (G.pm (4 * t + f) 1), .int .i64 (G.pm (4 * t + f) 2), .int .i64 (G.pm (4 * t + f) 3)]) (.agg #[.int .i64 0, .int .i64 0, .int .i64 0, .int .i64 0])).run Try.prog w = .ok false w := fun w => by
                  rw [show (10000 : Nat) = 9998 + 1 + 1 from rfl, run_equal_P4]
                  have : noneB G (4 * t + f) = false := hno'
                  rw [noneB, hm1] at this
                  simp only [all4, beq_self_eq_true, Bool.true_and] at this
                  rw [← this]; simp [Bool.and_assoc]
                rw [hm1] at p d0
                clear hga hgc hbN hkk hno hno' h0 hm1 hb
                go_wp2
                go_ret
                exact ⟨by rw [HBAD.out]; rfl, HN.out ▸ HK.out.2.alloc hNwr _⟩
              · have dm1 : (G.tet (4 * t + f) == -1) = false := by simpa using hm1
                clear hga hgc hbN hkk hno hno' h0 hm1 hb
                go_wp2
                go_ret
                exact ⟨by rw [HBAD.out]; rfl, HN.out ▸ HK.out.2.alloc hNwr _⟩
            have dm1 : (G.tet (4 * t + f) == -1) = false := by simp; omega
            have d0 : decide (G.tet (4 * t + f) < 0) = false := by simp; omega
            rcases Int.lt_or_le (G.tet (4 * t + f)) (G.n : Int) with h1 | h1
            · have d1 : decide ((G.n : Int) ≤ G.tet (4 * t + f)) = false := by simp; omega
              cases hvr : validR (G.pm (4 * t + f)) with
              | false =>
                have HBAD := Lib.hid (checkI_bad hk (show okB G (4 * t + f) = false by
                  have : validF (G.p (4 * t + f)) = false := by rw [← valid_same]; exact hvr
                  simp [okB, hno', this]))
                have cV := fun W => validR_walk (G.pm (4 * t + f)) W
                rw [hvr] at cV
                unfold P4 at cV
                have HV := Lib.hid cV
                clear hga hgc hbN hkk hno hno' hvr cV hb
                go_wp2_with (go_at_call 63; (with_reducible refine (HV.out _).mono ?_); rintro e w1 ⟨rfl, hb1⟩; have HB1 := Lib.hid hb1; clear hb1)
                go_ret
                exact ⟨by rw [HBAD.out]; rfl, HN.out ▸ (HK.out.2.alloc hNwr _).trans (HB1.out.mono (by simp; omega))⟩
              | true =>
                cases hsf : selfB G (4 * t + f) with
                | true =>
                  have HBAD := Lib.hid (checkI_bad hk (show okB G (4 * t + f) = false by simp [okB, hno', hsf]))
                  rw [selfB, km, kd, Bool.and_eq_true] at hsf
                  obtain ⟨e1, e2⟩ := hsf
                  have cV := fun W => validR_walk (G.pm (4 * t + f)) W
                  rw [hvr] at cV
                  unfold P4 at cV
                  have HV := Lib.hid cV
                  have hX : ∀ (W W' : World), W = wr.alloc (.cells #[.int .i64 (G.tet (4 * t + f)), .int .i64 (G.pm (4 * t + f) 0), .int .i64 (G.pm (4 * t + f) 1), .int .i64 (G.pm (4 * t + f) 2), .int .i64 (G.pm (4 * t + f) 3)] 87) → Below W.heap.size W W' → W'.cell? ⟨wr.heap.size, 0, none⟩ = some (.int .i64 (G.tet (4 * t + f))) ∧ W'.cell? ⟨wr.heap.size, 1 + f, none⟩ = some (.int .i64 (G.pm (4 * t + f) f)) ∧ Below N w W' := by
                    intro W W' hWe hb1
                    obtain ⟨hold, hnew, hB⟩ := copied (pm := G.pm (4 * t + f)) hNwr HK.out.2 hWe hb1
                    exact ⟨hnew 0 _ rfl, hnew _ _ (fcells_at _ _ f hf4), hB⟩
                  have HX := Lib.hid hX
                  clear hga hgc hbN hkk hno hno' hvr cV hb hX
                  go_wp2_with (go_at_call 63; (with_reducible refine (HV.out _).mono ?_); rintro e w1 ⟨rfl, hb1⟩; obtain ⟨x0, xf, xb⟩ := HX.out _ _ rfl hb1; have HB1 := Lib.hid xb; clear hb1 xb)
                  go_ret
                  exact ⟨by rw [HBAD.out]; rfl, HN.out ▸ HB1.out⟩
                | false =>
                  have hin := inB_iff.1 (validR_in hvr f hf4)
                  cases hmt : matchB G (4 * t + f) with
                  | true =>
                    have HOKK := Lib.hid (show okB G (4 * t + f) = true by
                      have hv : validF (G.p (4 * t + f)) = true := by rw [← valid_same]; exact hvr
                      simp [okB, hno', inTetB, h0, h1, hv, hsf, hmt])
                    have hbk : G.back (4 * t + f) < 4 * G.n := by unfold Gl.back; rw [km]; omega
                    have hcj := hgc (G.back (4 * t + f)) hbk
                    have ea : off + 5 * G.back (4 * t + f) = off + (G.tet (4 * t + f)).toNat * 20 + (G.pm (4 * t + f) f).toNat * 5 := by unfold Gl.back; rw [km]; omega
                    rw [ea] at hcj
                    obtain ⟨J, hJ⟩ : ∃ J, J = G.back (4 * t + f) := ⟨_, rfl⟩
                    rw [← hJ] at hcj
                    have g0 := hbN _ _ hcj.1
                    have g1 := hbN _ _ (hcj.2 0 (by omega))
                    have g2 := hbN _ _ (hcj.2 1 (by omega))
                    have g3 := hbN _ _ (hcj.2 2 (by omega))
                    have g4 := hbN _ _ (hcj.2 3 (by omega))
                    have hme : (G.tet J == (t : Int) && (G.pm J 0 == invF (G.pm (4 * t + f)) 0 && (G.pm J 1 == invF (G.pm (4 * t + f)) 1 && (G.pm J 2 == invF (G.pm (4 * t + f)) 2 && G.pm J 3 == invF (G.pm (4 * t + f)) 3)))) = true := by
                      have h := hmt
                      rw [matchB, ← hJ, kd] at h
                      have hpp : G.p (4 * t + f) = G.pm (4 * t + f) := rfl
                      rw [hpp] at h
                      simpa [all4, Bool.and_assoc] using h
                    have hsf2 : (G.tet (4 * t + f) == (t : Int) && G.pm (4 * t + f) f == (f : Int)) = false := by rw [selfB, km, kd] at hsf; exact hsf
                    have hy0 := hin.1
                    have hy1 : G.pm (4 * t + f) f < 4 := by omega
                    have cV := fun W => validR_walk (G.pm (4 * t + f)) W
                    rw [hvr] at cV
                    have cI := fun W => inverseR_walk (G.pm (4 * t + f)) W hvr
                    unfold P4 at cV cI
                    have HV := Lib.hid (And.intro cV cI)
                    have HM := Lib.hid hme
                    obtain ⟨D, hD⟩ : ∃ D, D = wr.heap.size := ⟨_, rfl⟩
                    have hND : N ≤ D := by have := HK.out.2.size; have := HN.out; omega
                    clear hga hgc hbN hkk hno hno' hsf hmt hvr hin hcj ea hJ hme cV cI hb hbk
                    have hE : ((G.tet (4 * t + f) == (t : Int)) = true ∧ (G.pm (4 * t + f) f == (f : Int)) = false) ∨ (G.tet (4 * t + f) == (t : Int)) = false := by
                      cases h : (G.tet (4 * t + f) == (t : Int)) with
                      | true => rw [h, Bool.true_and] at hsf2; exact .inl ⟨rfl, hsf2⟩
                      | false => exact .inr rfl
                    clear hsf2
                    have hX : ∀ (W W' : World), W = wr.alloc (.cells #[.int .i64 (G.tet (4 * t + f)), .int .i64 (G.pm (4 * t + f) 0), .int .i64 (G.pm (4 * t + f) 1), .int .i64 (G.pm (4 * t + f) 2), .int .i64 (G.pm (4 * t + f) 3)] 87) → Below W.heap.size W W' → W'.cell? ⟨wr.heap.size, 0, none⟩ = some (.int .i64 (G.tet (4 * t + f))) ∧ W'.cell? ⟨wr.heap.size, 1, none⟩ = some (.int .i64 (G.pm (4 * t + f) 0)) ∧ W'.cell? ⟨wr.heap.size, 2, none⟩ = some (.int .i64 (G.pm (4 * t + f) 1)) ∧ W'.cell? ⟨wr.heap.size, 3, none⟩ = some (.int .i64 (G.pm (4 * t + f) 2)) ∧ W'.cell? ⟨wr.heap.size, 4, none⟩ = some (.int .i64 (G.pm (4 * t + f) 3)) ∧ W'.cell? ⟨wr.heap.size, 1 + f, none⟩ = some (.int .i64 (G.pm (4 * t + f) f)) ∧ W'.cell? ⟨N, 0, none⟩ = some (.slice (some ⟨b, off, none⟩) G.n cap) ∧ (W'.cell? ⟨b, off + (G.tet (4 * t + f)).toNat * 20 + (G.pm (4 * t + f) f).toNat * 5, none⟩ = some (.int .i64 (G.tet J)) ∧ W'.cell? ⟨b, off + (G.tet (4 * t + f)).toNat * 20 + (G.pm (4 * t + f) f).toNat * 5 + 1, none⟩ = some (.int .i64 (G.pm J 0)) ∧ W'.cell? ⟨b, off + (G.tet (4 * t + f)).toNat * 20 + (G.pm (4 * t + f) f).toNat * 5 + 2, none⟩ = some (.int .i64 (G.pm J 1)) ∧ W'.cell? ⟨b, off + (G.tet (4 * t + f)).toNat * 20 + (G.pm (4 * t + f) f).toNat * 5 + 3, none⟩ = some (.int .i64 (G.pm J 2)) ∧ W'.cell? ⟨b, off + (G.tet (4 * t + f)).toNat * 20 + (G.pm (4 * t + f) f).toNat * 5 + 4, none⟩ = some (.int .i64 (G.pm J 3))) ∧ Below N w W' := by
                      intro W W' hWe hb1
                      obtain ⟨hold, hnew, hB⟩ := copied (pm := G.pm (4 * t + f)) (by have := HK.out.2.size; have := HN.out; omega) HK.out.2 hWe hb1
                      exact ⟨hnew 0 _ rfl, hnew 1 _ rfl, hnew 2 _ rfl, hnew 3 _ rfl, hnew 4 _ rfl, hnew _ _ (fcells_at _ _ f hf4), hold _ _ HK.out.1, ⟨hold _ _ g0, hold _ _ g1, hold _ _ g2, hold _ _ g3, hold _ _ g4⟩, hB⟩
                    have HX := Lib.hid hX
                    clear hX g0 g1 g2 g3 g4
                    rcases hE with ⟨e1, e2⟩ | e1
                    · go_wp2_with (go_at_call 63; (with_reducible refine (HV.out.1 _).mono ?_); rintro e w1 ⟨rfl, hb1⟩; obtain ⟨x0, x1, x2, x3, x4, xf, xc, xg, xb⟩ := HX.out _ _ rfl hb1; have H1 := Lib.hid (And.intro xg (And.intro xb hb1)); clear hb1 xg xb)
                      obtain ⟨⟨g0, g1, g2, g3, g4⟩, xb, hb1⟩ := H1.out
                      replace x0 : w1.drew.cell? ⟨wr.heap.size, 0, none⟩ = some (.int .i64 (G.tet (4 * t + f))) := x0
                      replace x1 : w1.drew.cell? ⟨wr.heap.size, 1, none⟩ = some (.int .i64 (G.pm (4 * t + f) 0)) := x1
                      replace x2 : w1.drew.cell? ⟨wr.heap.size, 2, none⟩ = some (.int .i64 (G.pm (4 * t + f) 1)) := x2
                      replace x3 : w1.drew.cell? ⟨wr.heap.size, 3, none⟩ = some (.int .i64 (G.pm (4 * t + f) 2)) := x3
                      replace x4 : w1.drew.cell? ⟨wr.heap.size, 4, none⟩ = some (.int .i64 (G.pm (4 * t + f) 3)) := x4
                      replace xf : w1.drew.cell? ⟨wr.heap.size, 1 + f, none⟩ = some (.int .i64 (G.pm (4 * t + f) f)) := xf
                      replace xc : w1.drew.cell? ⟨N, 0, none⟩ = some (.slice (some ⟨b, off, none⟩) G.n cap) := xc
                      replace g0 : w1.drew.cell? ⟨b, off + (G.tet (4 * t + f)).toNat * 20 + (G.pm (4 * t + f) f).toNat * 5, none⟩ = some (.int .i64 (G.tet J)) := g0
                      replace g1 : w1.drew.cell? ⟨b, off + (G.tet (4 * t + f)).toNat * 20 + (G.pm (4 * t + f) f).toNat * 5 + 1, none⟩ = some (.int .i64 (G.pm J 0)) := g1
                      replace g2 : w1.drew.cell? ⟨b, off + (G.tet (4 * t + f)).toNat * 20 + (G.pm (4 * t + f) f).toNat * 5 + 2, none⟩ = some (.int .i64 (G.pm J 1)) := g2
                      replace g3 : w1.drew.cell? ⟨b, off + (G.tet (4 * t + f)).toNat * 20 + (G.pm (4 * t + f) f).toNat * 5 + 3, none⟩ = some (.int .i64 (G.pm J 2)) := g3
                      replace g4 : w1.drew.cell? ⟨b, off + (G.tet (4 * t + f)).toNat * 20 + (G.pm (4 * t + f) f).toNat * 5 + 4, none⟩ = some (.int .i64 (G.pm J 3)) := g4
                      have lx0 := lt_of_cell x0
                      have lx1 := lt_of_cell x1
                      have lx2 := lt_of_cell x2
                      have lx3 := lt_of_cell x3
                      have lx4 := lt_of_cell x4
                      have lxf := lt_of_cell xf
                      have lxc := lt_of_cell xc
                      have lg0 := lt_of_cell g0
                      have lg1 := lt_of_cell g1
                      have lg2 := lt_of_cell g2
                      have lg3 := lt_of_cell g3
                      have lg4 := lt_of_cell g4
                      simp only at lx0 lx1 lx2 lx3 lx4 lxf lxc lg0 lg1 lg2 lg3 lg4
                      have HB := Lib.hid (below_dr xb)
                      clear xb hb1
                      have he2 := fun w => run_equal_face (G.tet J) (t : Int) (G.pm J 0) (G.pm J 1) (G.pm J 2) (G.pm J 3) (invF (G.pm (4 * t + f)) 0) (invF (G.pm (4 * t + f)) 1) (invF (G.pm (4 * t + f)) 2) (invF (G.pm (4 * t + f)) 3) w
                      simp only [HM.out] at he2
                      go_region_held3 (fun w' => w'.cell? ⟨wr.heap.size, 0, none⟩ = some (.int .i64 (G.tet (4 * t + f))) ∧ w'.cell? ⟨wr.heap.size, 1, none⟩ = some (.int .i64 (G.pm (4 * t + f) 0)) ∧ w'.cell? ⟨wr.heap.size, 2, none⟩ = some (.int .i64 (G.pm (4 * t + f) 1)) ∧ w'.cell? ⟨wr.heap.size, 3, none⟩ = some (.int .i64 (G.pm (4 * t + f) 2)) ∧ w'.cell? ⟨wr.heap.size, 4, none⟩ = some (.int .i64 (G.pm (4 * t + f) 3)) ∧ w'.cell? ⟨wr.heap.size, 1 + f, none⟩ = some (.int .i64 (G.pm (4 * t + f) f)) ∧ w'.cell? ⟨N, 0, none⟩ = some (.slice (some ⟨b, off, none⟩) G.n cap) ∧ w'.cell? ⟨b, off + (G.tet (4 * t + f)).toNat * 20 + (G.pm (4 * t + f) f).toNat * 5, none⟩ = some (.int .i64 (G.tet J)) ∧ w'.cell? ⟨b, off + (G.tet (4 * t + f)).toNat * 20 + (G.pm (4 * t + f) f).toNat * 5 + 1, none⟩ = some (.int .i64 (G.pm J 0)) ∧ w'.cell? ⟨b, off + (G.tet (4 * t + f)).toNat * 20 + (G.pm (4 * t + f) f).toNat * 5 + 2, none⟩ = some (.int .i64 (G.pm J 1)) ∧ w'.cell? ⟨b, off + (G.tet (4 * t + f)).toNat * 20 + (G.pm (4 * t + f) f).toNat * 5 + 3, none⟩ = some (.int .i64 (G.pm J 2)) ∧ w'.cell? ⟨b, off + (G.tet (4 * t + f)).toNat * 20 + (G.pm (4 * t + f) f).toNat * 5 + 4, none⟩ = some (.int .i64 (G.pm J 3)))
                        (first
                          | exact ⟨x0, x1, x2, x3, x4, xf, xc, g0, g1, g2, g3, g4⟩
                          | exact ⟨(hb2.cell (p := ⟨wr.heap.size, _, none⟩) (by exact lx0)).trans x0, (hb2.cell (p := ⟨wr.heap.size, _, none⟩) (by exact lx1)).trans x1, (hb2.cell (p := ⟨wr.heap.size, _, none⟩) (by exact lx2)).trans x2, (hb2.cell (p := ⟨wr.heap.size, _, none⟩) (by exact lx3)).trans x3, (hb2.cell (p := ⟨wr.heap.size, _, none⟩) (by exact lx4)).trans x4, (hb2.cell (p := ⟨wr.heap.size, _, none⟩) (by exact lxf)).trans xf, (hb2.cell (p := ⟨N, _, none⟩) (by exact lxc)).trans xc, (hb2.cell (p := ⟨b, _, none⟩) (by exact lg0)).trans g0, (hb2.cell (p := ⟨b, _, none⟩) (by exact lg1)).trans g1, (hb2.cell (p := ⟨b, _, none⟩) (by exact lg2)).trans g2, (hb2.cell (p := ⟨b, _, none⟩) (by exact lg3)).trans g3, (hb2.cell (p := ⟨b, _, none⟩) (by exact lg4)).trans g4⟩)
                        (first | (go_at_call 64; (with_reducible refine (HV.out.2 _).mono ?_); rintro e w2 ⟨rfl, hb2⟩))
                      go_wp2
                      go_roundw
                      case rel => exact ⟨f + 1, by omega, rfl, (fun k hk => by
                        rcases Nat.lt_or_ge k (4 * t + f) with h | h
                        · exact HAL.out k h
                        · rw [show k = 4 * t + f by omega]; exact HOKK.out), (hb2.cell (p := ⟨N, 0, none⟩) (by exact lxc)).trans xc, HB.out.trans (hb2.mono (by simp at lxc ⊢; omega))⟩
                      case measure => simp [intOf]; omega
                    · go_wp2_with (go_at_call 63; (with_reducible refine (HV.out.1 _).mono ?_); rintro e w1 ⟨rfl, hb1⟩; obtain ⟨x0, x1, x2, x3, x4, xf, xc, xg, xb⟩ := HX.out _ _ rfl hb1; have H1 := Lib.hid (And.intro xg (And.intro xb hb1)); clear hb1 xg xb)
                      obtain ⟨⟨g0, g1, g2, g3, g4⟩, xb, hb1⟩ := H1.out
                      replace x0 : w1.drew.cell? ⟨wr.heap.size, 0, none⟩ = some (.int .i64 (G.tet (4 * t + f))) := x0
                      replace x1 : w1.drew.cell? ⟨wr.heap.size, 1, none⟩ = some (.int .i64 (G.pm (4 * t + f) 0)) := x1
                      replace x2 : w1.drew.cell? ⟨wr.heap.size, 2, none⟩ = some (.int .i64 (G.pm (4 * t + f) 1)) := x2
                      replace x3 : w1.drew.cell? ⟨wr.heap.size, 3, none⟩ = some (.int .i64 (G.pm (4 * t + f) 2)) := x3
                      replace x4 : w1.drew.cell? ⟨wr.heap.size, 4, none⟩ = some (.int .i64 (G.pm (4 * t + f) 3)) := x4
                      replace xf : w1.drew.cell? ⟨wr.heap.size, 1 + f, none⟩ = some (.int .i64 (G.pm (4 * t + f) f)) := xf
                      replace xc : w1.drew.cell? ⟨N, 0, none⟩ = some (.slice (some ⟨b, off, none⟩) G.n cap) := xc
                      replace g0 : w1.drew.cell? ⟨b, off + (G.tet (4 * t + f)).toNat * 20 + (G.pm (4 * t + f) f).toNat * 5, none⟩ = some (.int .i64 (G.tet J)) := g0
                      replace g1 : w1.drew.cell? ⟨b, off + (G.tet (4 * t + f)).toNat * 20 + (G.pm (4 * t + f) f).toNat * 5 + 1, none⟩ = some (.int .i64 (G.pm J 0)) := g1
                      replace g2 : w1.drew.cell? ⟨b, off + (G.tet (4 * t + f)).toNat * 20 + (G.pm (4 * t + f) f).toNat * 5 + 2, none⟩ = some (.int .i64 (G.pm J 1)) := g2
                      replace g3 : w1.drew.cell? ⟨b, off + (G.tet (4 * t + f)).toNat * 20 + (G.pm (4 * t + f) f).toNat * 5 + 3, none⟩ = some (.int .i64 (G.pm J 2)) := g3
                      replace g4 : w1.drew.cell? ⟨b, off + (G.tet (4 * t + f)).toNat * 20 + (G.pm (4 * t + f) f).toNat * 5 + 4, none⟩ = some (.int .i64 (G.pm J 3)) := g4
                      have lx0 := lt_of_cell x0
                      have lx1 := lt_of_cell x1
                      have lx2 := lt_of_cell x2
                      have lx3 := lt_of_cell x3
                      have lx4 := lt_of_cell x4
                      have lxf := lt_of_cell xf
                      have lxc := lt_of_cell xc
                      have lg0 := lt_of_cell g0
                      have lg1 := lt_of_cell g1
                      have lg2 := lt_of_cell g2
                      have lg3 := lt_of_cell g3
                      have lg4 := lt_of_cell g4
                      simp only at lx0 lx1 lx2 lx3 lx4 lxf lxc lg0 lg1 lg2 lg3 lg4
                      have HB := Lib.hid (below_dr xb)
                      clear xb hb1
                      have he2 := fun w => run_equal_face (G.tet J) (t : Int) (G.pm J 0) (G.pm J 1) (G.pm J 2) (G.pm J 3) (invF (G.pm (4 * t + f)) 0) (invF (G.pm (4 * t + f)) 1) (invF (G.pm (4 * t + f)) 2) (invF (G.pm (4 * t + f)) 3) w
                      simp only [HM.out] at he2
                      go_region_held3 (fun w' => w'.cell? ⟨wr.heap.size, 0, none⟩ = some (.int .i64 (G.tet (4 * t + f))) ∧ w'.cell? ⟨wr.heap.size, 1, none⟩ = some (.int .i64 (G.pm (4 * t + f) 0)) ∧ w'.cell? ⟨wr.heap.size, 2, none⟩ = some (.int .i64 (G.pm (4 * t + f) 1)) ∧ w'.cell? ⟨wr.heap.size, 3, none⟩ = some (.int .i64 (G.pm (4 * t + f) 2)) ∧ w'.cell? ⟨wr.heap.size, 4, none⟩ = some (.int .i64 (G.pm (4 * t + f) 3)) ∧ w'.cell? ⟨wr.heap.size, 1 + f, none⟩ = some (.int .i64 (G.pm (4 * t + f) f)) ∧ w'.cell? ⟨N, 0, none⟩ = some (.slice (some ⟨b, off, none⟩) G.n cap) ∧ w'.cell? ⟨b, off + (G.tet (4 * t + f)).toNat * 20 + (G.pm (4 * t + f) f).toNat * 5, none⟩ = some (.int .i64 (G.tet J)) ∧ w'.cell? ⟨b, off + (G.tet (4 * t + f)).toNat * 20 + (G.pm (4 * t + f) f).toNat * 5 + 1, none⟩ = some (.int .i64 (G.pm J 0)) ∧ w'.cell? ⟨b, off + (G.tet (4 * t + f)).toNat * 20 + (G.pm (4 * t + f) f).toNat * 5 + 2, none⟩ = some (.int .i64 (G.pm J 1)) ∧ w'.cell? ⟨b, off + (G.tet (4 * t + f)).toNat * 20 + (G.pm (4 * t + f) f).toNat * 5 + 3, none⟩ = some (.int .i64 (G.pm J 2)) ∧ w'.cell? ⟨b, off + (G.tet (4 * t + f)).toNat * 20 + (G.pm (4 * t + f) f).toNat * 5 + 4, none⟩ = some (.int .i64 (G.pm J 3)))
                        (first
                          | exact ⟨x0, x1, x2, x3, x4, xf, xc, g0, g1, g2, g3, g4⟩
                          | exact ⟨(hb2.cell (p := ⟨wr.heap.size, _, none⟩) (by exact lx0)).trans x0, (hb2.cell (p := ⟨wr.heap.size, _, none⟩) (by exact lx1)).trans x1, (hb2.cell (p := ⟨wr.heap.size, _, none⟩) (by exact lx2)).trans x2, (hb2.cell (p := ⟨wr.heap.size, _, none⟩) (by exact lx3)).trans x3, (hb2.cell (p := ⟨wr.heap.size, _, none⟩) (by exact lx4)).trans x4, (hb2.cell (p := ⟨wr.heap.size, _, none⟩) (by exact lxf)).trans xf, (hb2.cell (p := ⟨N, _, none⟩) (by exact lxc)).trans xc, (hb2.cell (p := ⟨b, _, none⟩) (by exact lg0)).trans g0, (hb2.cell (p := ⟨b, _, none⟩) (by exact lg1)).trans g1, (hb2.cell (p := ⟨b, _, none⟩) (by exact lg2)).trans g2, (hb2.cell (p := ⟨b, _, none⟩) (by exact lg3)).trans g3, (hb2.cell (p := ⟨b, _, none⟩) (by exact lg4)).trans g4⟩)
                        (first | (go_at_call 64; (with_reducible refine (HV.out.2 _).mono ?_); rintro e w2 ⟨rfl, hb2⟩))
                      go_wp2
                      go_roundw
                      case rel => exact ⟨f + 1, by omega, rfl, (fun k hk => by
                        rcases Nat.lt_or_ge k (4 * t + f) with h | h
                        · exact HAL.out k h
                        · rw [show k = 4 * t + f by omega]; exact HOKK.out), (hb2.cell (p := ⟨N, 0, none⟩) (by exact lxc)).trans xc, HB.out.trans (hb2.mono (by simp at lxc ⊢; omega))⟩
                      case measure => simp [intOf]; omega
                  | false =>
                    have HBAD := Lib.hid (checkI_bad hk (show okB G (4 * t + f) = false by simp [okB, hno', hmt]))
                    have hbk : G.back (4 * t + f) < 4 * G.n := by unfold Gl.back; rw [km]; omega
                    have hcj := hgc (G.back (4 * t + f)) hbk
                    have ea : off + 5 * G.back (4 * t + f) = off + (G.tet (4 * t + f)).toNat * 20 + (G.pm (4 * t + f) f).toNat * 5 := by unfold Gl.back; rw [km]; omega
                    rw [ea] at hcj
                    obtain ⟨J, hJ⟩ : ∃ J, J = G.back (4 * t + f) := ⟨_, rfl⟩
                    rw [← hJ] at hcj
                    have g0 := hbN _ _ hcj.1
                    have g1 := hbN _ _ (hcj.2 0 (by omega))
                    have g2 := hbN _ _ (hcj.2 1 (by omega))
                    have g3 := hbN _ _ (hcj.2 2 (by omega))
                    have g4 := hbN _ _ (hcj.2 3 (by omega))
                    have hme : (G.tet J == (t : Int) && (G.pm J 0 == invF (G.pm (4 * t + f)) 0 && (G.pm J 1 == invF (G.pm (4 * t + f)) 1 && (G.pm J 2 == invF (G.pm (4 * t + f)) 2 && G.pm J 3 == invF (G.pm (4 * t + f)) 3)))) = false := by
                      have h := hmt
                      rw [matchB, ← hJ, kd] at h
                      have hpp : G.p (4 * t + f) = G.pm (4 * t + f) := rfl
                      rw [hpp] at h
                      rw [← h]; simp [all4, Bool.and_assoc]
                    have hsf2 : (G.tet (4 * t + f) == (t : Int) && G.pm (4 * t + f) f == (f : Int)) = false := by rw [selfB, km, kd] at hsf; exact hsf
                    have hy0 := hin.1
                    have hy1 : G.pm (4 * t + f) f < 4 := by omega
                    have cV := fun W => validR_walk (G.pm (4 * t + f)) W
                    rw [hvr] at cV
                    have cI := fun W => inverseR_walk (G.pm (4 * t + f)) W hvr
                    unfold P4 at cV cI
                    have HV := Lib.hid (And.intro cV cI)
                    have HM := Lib.hid hme
                    obtain ⟨D, hD⟩ : ∃ D, D = wr.heap.size := ⟨_, rfl⟩
                    have hND : N ≤ D := by have := HK.out.2.size; have := HN.out; omega
                    clear hga hgc hbN hkk hno hno' hsf hmt hvr hin hcj ea hJ hme cV cI hb hbk
                    have hE : ((G.tet (4 * t + f) == (t : Int)) = true ∧ (G.pm (4 * t + f) f == (f : Int)) = false) ∨ (G.tet (4 * t + f) == (t : Int)) = false := by
                      cases h : (G.tet (4 * t + f) == (t : Int)) with
                      | true => rw [h, Bool.true_and] at hsf2; exact .inl ⟨rfl, hsf2⟩
                      | false => exact .inr rfl
                    clear hsf2
                    have hX : ∀ (W W' : World), W = wr.alloc (.cells #[.int .i64 (G.tet (4 * t + f)), .int .i64 (G.pm (4 * t + f) 0), .int .i64 (G.pm (4 * t + f) 1), .int .i64 (G.pm (4 * t + f) 2), .int .i64 (G.pm (4 * t + f) 3)] 87) → Below W.heap.size W W' → W'.cell? ⟨wr.heap.size, 0, none⟩ = some (.int .i64 (G.tet (4 * t + f))) ∧ W'.cell? ⟨wr.heap.size, 1, none⟩ = some (.int .i64 (G.pm (4 * t + f) 0)) ∧ W'.cell? ⟨wr.heap.size, 2, none⟩ = some (.int .i64 (G.pm (4 * t + f) 1)) ∧ W'.cell? ⟨wr.heap.size, 3, none⟩ = some (.int .i64 (G.pm (4 * t + f) 2)) ∧ W'.cell? ⟨wr.heap.size, 4, none⟩ = some (.int .i64 (G.pm (4 * t + f) 3)) ∧ W'.cell? ⟨wr.heap.size, 1 + f, none⟩ = some (.int .i64 (G.pm (4 * t + f) f)) ∧ W'.cell? ⟨N, 0, none⟩ = some (.slice (some ⟨b, off, none⟩) G.n cap) ∧ (W'.cell? ⟨b, off + (G.tet (4 * t + f)).toNat * 20 + (G.pm (4 * t + f) f).toNat * 5, none⟩ = some (.int .i64 (G.tet J)) ∧ W'.cell? ⟨b, off + (G.tet (4 * t + f)).toNat * 20 + (G.pm (4 * t + f) f).toNat * 5 + 1, none⟩ = some (.int .i64 (G.pm J 0)) ∧ W'.cell? ⟨b, off + (G.tet (4 * t + f)).toNat * 20 + (G.pm (4 * t + f) f).toNat * 5 + 2, none⟩ = some (.int .i64 (G.pm J 1)) ∧ W'.cell? ⟨b, off + (G.tet (4 * t + f)).toNat * 20 + (G.pm (4 * t + f) f).toNat * 5 + 3, none⟩ = some (.int .i64 (G.pm J 2)) ∧ W'.cell? ⟨b, off + (G.tet (4 * t + f)).toNat * 20 + (G.pm (4 * t + f) f).toNat * 5 + 4, none⟩ = some (.int .i64 (G.pm J 3))) ∧ Below N w W' := by
                      intro W W' hWe hb1
                      obtain ⟨hold, hnew, hB⟩ := copied (pm := G.pm (4 * t + f)) (by have := HK.out.2.size; have := HN.out; omega) HK.out.2 hWe hb1
                      exact ⟨hnew 0 _ rfl, hnew 1 _ rfl, hnew 2 _ rfl, hnew 3 _ rfl, hnew 4 _ rfl, hnew _ _ (fcells_at _ _ f hf4), hold _ _ HK.out.1, ⟨hold _ _ g0, hold _ _ g1, hold _ _ g2, hold _ _ g3, hold _ _ g4⟩, hB⟩
                    have HX := Lib.hid hX
                    clear hX g0 g1 g2 g3 g4
                    rcases hE with ⟨e1, e2⟩ | e1
                    · go_wp2_with (go_at_call 63; (with_reducible refine (HV.out.1 _).mono ?_); rintro e w1 ⟨rfl, hb1⟩; obtain ⟨x0, x1, x2, x3, x4, xf, xc, xg, xb⟩ := HX.out _ _ rfl hb1; have H1 := Lib.hid (And.intro xg (And.intro xb hb1)); clear hb1 xg xb)
                      obtain ⟨⟨g0, g1, g2, g3, g4⟩, xb, hb1⟩ := H1.out
                      replace x0 : w1.drew.cell? ⟨wr.heap.size, 0, none⟩ = some (.int .i64 (G.tet (4 * t + f))) := x0
                      replace x1 : w1.drew.cell? ⟨wr.heap.size, 1, none⟩ = some (.int .i64 (G.pm (4 * t + f) 0)) := x1
                      replace x2 : w1.drew.cell? ⟨wr.heap.size, 2, none⟩ = some (.int .i64 (G.pm (4 * t + f) 1)) := x2
                      replace x3 : w1.drew.cell? ⟨wr.heap.size, 3, none⟩ = some (.int .i64 (G.pm (4 * t + f) 2)) := x3
                      replace x4 : w1.drew.cell? ⟨wr.heap.size, 4, none⟩ = some (.int .i64 (G.pm (4 * t + f) 3)) := x4
                      replace xf : w1.drew.cell? ⟨wr.heap.size, 1 + f, none⟩ = some (.int .i64 (G.pm (4 * t + f) f)) := xf
                      replace xc : w1.drew.cell? ⟨N, 0, none⟩ = some (.slice (some ⟨b, off, none⟩) G.n cap) := xc
                      replace g0 : w1.drew.cell? ⟨b, off + (G.tet (4 * t + f)).toNat * 20 + (G.pm (4 * t + f) f).toNat * 5, none⟩ = some (.int .i64 (G.tet J)) := g0
                      replace g1 : w1.drew.cell? ⟨b, off + (G.tet (4 * t + f)).toNat * 20 + (G.pm (4 * t + f) f).toNat * 5 + 1, none⟩ = some (.int .i64 (G.pm J 0)) := g1
                      replace g2 : w1.drew.cell? ⟨b, off + (G.tet (4 * t + f)).toNat * 20 + (G.pm (4 * t + f) f).toNat * 5 + 2, none⟩ = some (.int .i64 (G.pm J 1)) := g2
                      replace g3 : w1.drew.cell? ⟨b, off + (G.tet (4 * t + f)).toNat * 20 + (G.pm (4 * t + f) f).toNat * 5 + 3, none⟩ = some (.int .i64 (G.pm J 2)) := g3
                      replace g4 : w1.drew.cell? ⟨b, off + (G.tet (4 * t + f)).toNat * 20 + (G.pm (4 * t + f) f).toNat * 5 + 4, none⟩ = some (.int .i64 (G.pm J 3)) := g4
                      have lx0 := lt_of_cell x0
                      have lx1 := lt_of_cell x1
                      have lx2 := lt_of_cell x2
                      have lx3 := lt_of_cell x3
                      have lx4 := lt_of_cell x4
                      have lxf := lt_of_cell xf
                      have lxc := lt_of_cell xc
                      have lg0 := lt_of_cell g0
                      have lg1 := lt_of_cell g1
                      have lg2 := lt_of_cell g2
                      have lg3 := lt_of_cell g3
                      have lg4 := lt_of_cell g4
                      simp only at lx0 lx1 lx2 lx3 lx4 lxf lxc lg0 lg1 lg2 lg3 lg4
                      have HB := Lib.hid (below_dr xb)
                      clear xb hb1
                      have he2 := fun w => run_equal_face (G.tet J) (t : Int) (G.pm J 0) (G.pm J 1) (G.pm J 2) (G.pm J 3) (invF (G.pm (4 * t + f)) 0) (invF (G.pm (4 * t + f)) 1) (invF (G.pm (4 * t + f)) 2) (invF (G.pm (4 * t + f)) 3) w
                      simp only [HM.out] at he2
                      go_region_held3 (fun w' => w'.cell? ⟨wr.heap.size, 0, none⟩ = some (.int .i64 (G.tet (4 * t + f))) ∧ w'.cell? ⟨wr.heap.size, 1, none⟩ = some (.int .i64 (G.pm (4 * t + f) 0)) ∧ w'.cell? ⟨wr.heap.size, 2, none⟩ = some (.int .i64 (G.pm (4 * t + f) 1)) ∧ w'.cell? ⟨wr.heap.size, 3, none⟩ = some (.int .i64 (G.pm (4 * t + f) 2)) ∧ w'.cell? ⟨wr.heap.size, 4, none⟩ = some (.int .i64 (G.pm (4 * t + f) 3)) ∧ w'.cell? ⟨wr.heap.size, 1 + f, none⟩ = some (.int .i64 (G.pm (4 * t + f) f)) ∧ w'.cell? ⟨N, 0, none⟩ = some (.slice (some ⟨b, off, none⟩) G.n cap) ∧ w'.cell? ⟨b, off + (G.tet (4 * t + f)).toNat * 20 + (G.pm (4 * t + f) f).toNat * 5, none⟩ = some (.int .i64 (G.tet J)) ∧ w'.cell? ⟨b, off + (G.tet (4 * t + f)).toNat * 20 + (G.pm (4 * t + f) f).toNat * 5 + 1, none⟩ = some (.int .i64 (G.pm J 0)) ∧ w'.cell? ⟨b, off + (G.tet (4 * t + f)).toNat * 20 + (G.pm (4 * t + f) f).toNat * 5 + 2, none⟩ = some (.int .i64 (G.pm J 1)) ∧ w'.cell? ⟨b, off + (G.tet (4 * t + f)).toNat * 20 + (G.pm (4 * t + f) f).toNat * 5 + 3, none⟩ = some (.int .i64 (G.pm J 2)) ∧ w'.cell? ⟨b, off + (G.tet (4 * t + f)).toNat * 20 + (G.pm (4 * t + f) f).toNat * 5 + 4, none⟩ = some (.int .i64 (G.pm J 3)))
                        (first
                          | exact ⟨x0, x1, x2, x3, x4, xf, xc, g0, g1, g2, g3, g4⟩
                          | exact ⟨(hb2.cell (p := ⟨wr.heap.size, _, none⟩) (by exact lx0)).trans x0, (hb2.cell (p := ⟨wr.heap.size, _, none⟩) (by exact lx1)).trans x1, (hb2.cell (p := ⟨wr.heap.size, _, none⟩) (by exact lx2)).trans x2, (hb2.cell (p := ⟨wr.heap.size, _, none⟩) (by exact lx3)).trans x3, (hb2.cell (p := ⟨wr.heap.size, _, none⟩) (by exact lx4)).trans x4, (hb2.cell (p := ⟨wr.heap.size, _, none⟩) (by exact lxf)).trans xf, (hb2.cell (p := ⟨N, _, none⟩) (by exact lxc)).trans xc, (hb2.cell (p := ⟨b, _, none⟩) (by exact lg0)).trans g0, (hb2.cell (p := ⟨b, _, none⟩) (by exact lg1)).trans g1, (hb2.cell (p := ⟨b, _, none⟩) (by exact lg2)).trans g2, (hb2.cell (p := ⟨b, _, none⟩) (by exact lg3)).trans g3, (hb2.cell (p := ⟨b, _, none⟩) (by exact lg4)).trans g4⟩)
                        (first | (go_at_call 64; (with_reducible refine (HV.out.2 _).mono ?_); rintro e w2 ⟨rfl, hb2⟩))
                      go_wp2
                      go_ret
                      exact ⟨by rw [HBAD.out]; rfl, HN.out ▸ HB.out.trans (hb2.mono (by simp at lxc ⊢; omega))⟩
                    · go_wp2_with (go_at_call 63; (with_reducible refine (HV.out.1 _).mono ?_); rintro e w1 ⟨rfl, hb1⟩; obtain ⟨x0, x1, x2, x3, x4, xf, xc, xg, xb⟩ := HX.out _ _ rfl hb1; have H1 := Lib.hid (And.intro xg (And.intro xb hb1)); clear hb1 xg xb)
                      obtain ⟨⟨g0, g1, g2, g3, g4⟩, xb, hb1⟩ := H1.out
                      replace x0 : w1.drew.cell? ⟨wr.heap.size, 0, none⟩ = some (.int .i64 (G.tet (4 * t + f))) := x0
                      replace x1 : w1.drew.cell? ⟨wr.heap.size, 1, none⟩ = some (.int .i64 (G.pm (4 * t + f) 0)) := x1
                      replace x2 : w1.drew.cell? ⟨wr.heap.size, 2, none⟩ = some (.int .i64 (G.pm (4 * t + f) 1)) := x2
                      replace x3 : w1.drew.cell? ⟨wr.heap.size, 3, none⟩ = some (.int .i64 (G.pm (4 * t + f) 2)) := x3
                      replace x4 : w1.drew.cell? ⟨wr.heap.size, 4, none⟩ = some (.int .i64 (G.pm (4 * t + f) 3)) := x4
                      replace xf : w1.drew.cell? ⟨wr.heap.size, 1 + f, none⟩ = some (.int .i64 (G.pm (4 * t + f) f)) := xf
                      replace xc : w1.drew.cell? ⟨N, 0, none⟩ = some (.slice (some ⟨b, off, none⟩) G.n cap) := xc
                      replace g0 : w1.drew.cell? ⟨b, off + (G.tet (4 * t + f)).toNat * 20 + (G.pm (4 * t + f) f).toNat * 5, none⟩ = some (.int .i64 (G.tet J)) := g0
                      replace g1 : w1.drew.cell? ⟨b, off + (G.tet (4 * t + f)).toNat * 20 + (G.pm (4 * t + f) f).toNat * 5 + 1, none⟩ = some (.int .i64 (G.pm J 0)) := g1
                      replace g2 : w1.drew.cell? ⟨b, off + (G.tet (4 * t + f)).toNat * 20 + (G.pm (4 * t + f) f).toNat * 5 + 2, none⟩ = some (.int .i64 (G.pm J 1)) := g2
                      replace g3 : w1.drew.cell? ⟨b, off + (G.tet (4 * t + f)).toNat * 20 + (G.pm (4 * t + f) f).toNat * 5 + 3, none⟩ = some (.int .i64 (G.pm J 2)) := g3
                      replace g4 : w1.drew.cell? ⟨b, off + (G.tet (4 * t + f)).toNat * 20 + (G.pm (4 * t + f) f).toNat * 5 + 4, none⟩ = some (.int .i64 (G.pm J 3)) := g4
                      have lx0 := lt_of_cell x0
                      have lx1 := lt_of_cell x1
                      have lx2 := lt_of_cell x2
                      have lx3 := lt_of_cell x3
                      have lx4 := lt_of_cell x4
                      have lxf := lt_of_cell xf
                      have lxc := lt_of_cell xc
                      have lg0 := lt_of_cell g0
                      have lg1 := lt_of_cell g1
                      have lg2 := lt_of_cell g2
                      have lg3 := lt_of_cell g3
                      have lg4 := lt_of_cell g4
                      simp only at lx0 lx1 lx2 lx3 lx4 lxf lxc lg0 lg1 lg2 lg3 lg4
                      have HB := Lib.hid (below_dr xb)
                      clear xb hb1
                      have he2 := fun w => run_equal_face (G.tet J) (t : Int) (G.pm J 0) (G.pm J 1) (G.pm J 2) (G.pm J 3) (invF (G.pm (4 * t + f)) 0) (invF (G.pm (4 * t + f)) 1) (invF (G.pm (4 * t + f)) 2) (invF (G.pm (4 * t + f)) 3) w
                      simp only [HM.out] at he2
                      go_region_held3 (fun w' => w'.cell? ⟨wr.heap.size, 0, none⟩ = some (.int .i64 (G.tet (4 * t + f))) ∧ w'.cell? ⟨wr.heap.size, 1, none⟩ = some (.int .i64 (G.pm (4 * t + f) 0)) ∧ w'.cell? ⟨wr.heap.size, 2, none⟩ = some (.int .i64 (G.pm (4 * t + f) 1)) ∧ w'.cell? ⟨wr.heap.size, 3, none⟩ = some (.int .i64 (G.pm (4 * t + f) 2)) ∧ w'.cell? ⟨wr.heap.size, 4, none⟩ = some (.int .i64 (G.pm (4 * t + f) 3)) ∧ w'.cell? ⟨wr.heap.size, 1 + f, none⟩ = some (.int .i64 (G.pm (4 * t + f) f)) ∧ w'.cell? ⟨N, 0, none⟩ = some (.slice (some ⟨b, off, none⟩) G.n cap) ∧ w'.cell? ⟨b, off + (G.tet (4 * t + f)).toNat * 20 + (G.pm (4 * t + f) f).toNat * 5, none⟩ = some (.int .i64 (G.tet J)) ∧ w'.cell? ⟨b, off + (G.tet (4 * t + f)).toNat * 20 + (G.pm (4 * t + f) f).toNat * 5 + 1, none⟩ = some (.int .i64 (G.pm J 0)) ∧ w'.cell? ⟨b, off + (G.tet (4 * t + f)).toNat * 20 + (G.pm (4 * t + f) f).toNat * 5 + 2, none⟩ = some (.int .i64 (G.pm J 1)) ∧ w'.cell? ⟨b, off + (G.tet (4 * t + f)).toNat * 20 + (G.pm (4 * t + f) f).toNat * 5 + 3, none⟩ = some (.int .i64 (G.pm J 2)) ∧ w'.cell? ⟨b, off + (G.tet (4 * t + f)).toNat * 20 + (G.pm (4 * t + f) f).toNat * 5 + 4, none⟩ = some (.int .i64 (G.pm J 3)))
                        (first
                          | exact ⟨x0, x1, x2, x3, x4, xf, xc, g0, g1, g2, g3, g4⟩
                          | exact ⟨(hb2.cell (p := ⟨wr.heap.size, _, none⟩) (by exact lx0)).trans x0, (hb2.cell (p := ⟨wr.heap.size, _, none⟩) (by exact lx1)).trans x1, (hb2.cell (p := ⟨wr.heap.size, _, none⟩) (by exact lx2)).trans x2, (hb2.cell (p := ⟨wr.heap.size, _, none⟩) (by exact lx3)).trans x3, (hb2.cell (p := ⟨wr.heap.size, _, none⟩) (by exact lx4)).trans x4, (hb2.cell (p := ⟨wr.heap.size, _, none⟩) (by exact lxf)).trans xf, (hb2.cell (p := ⟨N, _, none⟩) (by exact lxc)).trans xc, (hb2.cell (p := ⟨b, _, none⟩) (by exact lg0)).trans g0, (hb2.cell (p := ⟨b, _, none⟩) (by exact lg1)).trans g1, (hb2.cell (p := ⟨b, _, none⟩) (by exact lg2)).trans g2, (hb2.cell (p := ⟨b, _, none⟩) (by exact lg3)).trans g3, (hb2.cell (p := ⟨b, _, none⟩) (by exact lg4)).trans g4⟩)
                        (first | (go_at_call 64; (with_reducible refine (HV.out.2 _).mono ?_); rintro e w2 ⟨rfl, hb2⟩))
                      go_wp2
                      go_ret
                      exact ⟨by rw [HBAD.out]; rfl, HN.out ▸ HB.out.trans (hb2.mono (by simp at lxc ⊢; omega))⟩
            · have d1 : decide ((G.n : Int) ≤ G.tet (4 * t + f)) = true := by simpa using h1
              have HBAD := Lib.hid (checkI_bad hk (show okB G (4 * t + f) = false by simp [okB, hno', inTetB]; omega))
              clear hga hgc hbN hkk hno hno' h0 hb
              go_wp2
              go_ret
              exact ⟨by rw [HBAD.out]; rfl, HN.out ▸ HK.out.2.alloc hNwr _⟩
        · obtain rfl : f = 4 := by omega
          clear hc hb
          go_wp2
          go_roundw
          case rel => exact ⟨t + 1, by omega, rfl, fun k hk => HAL.out k (by omega), HK.out⟩
          case measure => simp [intOf]; omega
    · obtain rfl : t = G.n := by omega
      clear hc hb
      go_wp2
      have HALL := Lib.hid (checkI_all hn HAL.out)
      go_ret
      exact ⟨by rw [HALL.out]; rfl, HN.out ▸ HK.out.2⟩
end Go.Proofs.Ytlckpgahijlmoaa
