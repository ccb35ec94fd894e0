/- R01.Check of a gluing that glue.Check takes. -/
import Derived.Test.YtlckpgahijlmoaaQ21
namespace Go.Proofs.Ytlckpgahijlmoaa
open Go.RowKit Go.Shelf Go.Sort

theorem validR_of {p : Nat → Int} (h1 : ∀ i, i < 4 → inB (p i) = true) (h2 : ∀ i j, i < 4 → j < 4 → i ≠ j → p i ≠ p j) : validR p = true := by
  rw [validR, List.all_eq_true]
  intro k hk
  have hk := List.mem_range.1 hk
  rw [Bool.and_eq_true]
  refine ⟨h1 k hk, ?_⟩
  rw [Bool.not_eq_true', seenF, Bool.eq_false_iff]
  intro hs
  obtain ⟨i, hi, e⟩ := List.any_eq_true.1 hs
  have hi := List.mem_range.1 hi
  have := (inB_iff.1 (h1 k hk)).1
  exact h2 i k (by omega) hk (by omega) (by have := eq_of_beq e; omega)

theorem checkR_valid {G : Gl} (hok : checkB G = true) {k : Nat} (hk : k < 4 * G.n) (hneg : ¬ G.tet k < 0) : validR (G.pm k) = true := by
  obtain ⟨_, _, e⟩ := ok_face hok hk hneg
  have hi := ok_inj hok hk hneg
  refine validR_of (fun i hi => inB_iff.2 ?_) (fun i j h1 h2 h3 => ?_)
  · have := e i hi; omega
  · have := e i h1; have := e j h2; have := hi i j h1 h2 h3; omega

/-- a face's five cells -/
def fcells (T : Int) (pm : Nat → Int) : Array Value := #[.int .i64 T, .int .i64 (pm 0), .int .i64 (pm 1), .int .i64 (pm 2), .int .i64 (pm 3)]
theorem fcells_at (T : Int) (pm : Nat → Int) (f : Nat) (hf : f < 4) : (fcells T pm)[1 + f]? = some (.int .i64 (pm f)) := by
  match f, hf with
  | 0, _ => rfl
  | 1, _ => rfl
  | 2, _ => rfl
  | 3, _ => rfl
/-- what lies in memory behind a face's copy and a call -/
theorem copied {w wr W W' : World} {N : Nat} {T : Int} {pm : Nat → Int} (hNs : N ≤ wr.heap.size) (hbw : Below N w wr) (hWe : W = wr.alloc (.cells (fcells T pm) 87)) (hb1 : Below W.heap.size W W') :
    (∀ a x, wr.cell? a = some x → W'.cell? a = some x) ∧ (∀ j x, (fcells T pm)[j]? = some x → W'.cell? ⟨wr.heap.size, j, none⟩ = some x) ∧ Below N w W' := by
  have hWs : W.heap.size = wr.heap.size + 1 := by rw [hWe]; simp
  refine ⟨fun a x h => ?_, fun j x h => ?_, ?_⟩
  · have hl := lt_of_cell h
    have h2 := cell_al h (.cells (fcells T pm) 87)
    rw [← hWe] at h2
    exact (hb1.cell (p := a) (by omega)).trans h2
  · refine (hb1.cell (p := ⟨wr.heap.size, j, none⟩) (by show wr.heap.size < _; omega)).trans ?_
    rw [hWe, World.cell?_alloc_at _ _ _ _ rfl]; exact h
  · have hBW : Below N w W := by rw [hWe]; exact hbw.alloc hNs _
    exact hBW.trans (hb1.mono (by omega))

set_option maxRecDepth 100000 in
set_option maxHeartbeats 2000000 in
theorem checkR_walk {G : Gl} (hok : checkB G = true) (w : World) (v : Value) (hG : GlAt w.heap.size w v G) :
    Calls Try.prog 24 #[.agg #[v]] w fun e w' => e = .returned (.int .i64 0) ∧ Below w.heap.size w w' := by
  have hn : G.n ≤ 1000 := by simp only [checkB, Bool.and_eq_true, decide_eq_true_eq] at hok; exact hok.1
  have hall : ∀ k, k < 4 * G.n → okB G k = true := by
    simp only [checkB, Bool.and_eq_true, List.all_eq_true, List.mem_range] at hok; exact hok.2
  have HO := Lib.hid (And.intro hok hall); clear hok hall
  obtain ⟨a, b, off, cap, rfl, hga, hgc⟩ := hG
  have HGC := Lib.hid (And.intro hga hgc); clear hga hgc
  go_enter Try.func24, Try.ntmps24
  go_wp2
  refine wp_named fun W1 hW => ?_
  have h1 : W1.cell? ⟨w.heap.size, 0, none⟩ = some (.slice a G.n cap) ∧ Below w.heap.size w W1 := by
    rw [hW]; exact ⟨by simp [go_sem], by (repeat' (first | assumption | exact Below.refl _ _ | refine below_then ?_ (by assumption) | refine below_al ?_ _ | refine below_dr ?_ | refine below_sc ?_ (by simp <;> omega) _))⟩
  have H1 := Lib.hid h1; clear h1 hW
  obtain ⟨N, hN⟩ : ∃ N, w.heap.size = N := ⟨_, rfl⟩
  have HN := Lib.hid hN
  rw [hN] at H1 HGC ⊢
  clear hN
  go_loopw [4] (fun i wr => ∃ t : Nat, t ≤ G.n ∧ i = .int .i64 t ∧ wr.cell? ⟨N, 0, none⟩ = some (.slice a G.n cap) ∧ Below N w wr) (fun i _ => G.n - (intOf i).toNat)
  case atStart => exact ⟨0, by omega, rfl, H1.out⟩
  case round =>
    clear H1
    obtain ⟨t, ht, rfl, hc, hb⟩ := hrel
    have HK := Lib.hid (And.intro hc hb)
    rcases Nat.lt_or_ge t G.n with htn | htn
    · obtain ⟨hga, hgc⟩ := HGC.out
      obtain ⟨rfl, hbB⟩ := hga (by omega)
      clear hc hb hga hgc
      go_wp2
      go_loopw [5] (fun i wr => ∃ f : Nat, f ≤ 4 ∧ i = .int .i64 f ∧ wr.cell? ⟨N, 0, none⟩ = some (.slice (some ⟨b, off, none⟩) G.n cap) ∧ Below N w wr) (fun i _ => 4 - (intOf i).toNat)
      case atStart => exact ⟨0, by omega, rfl, HK.out⟩
      case round =>
        clear HK
        obtain ⟨f, hf, rfl, hc, hb⟩ := hrel
        have HK := Lib.hid (And.intro hc hb)
        rcases Nat.lt_or_ge f 4 with hf4 | hf4
        · have hk : 4 * t + f < 4 * G.n := by omega
          obtain ⟨hga, hgc⟩ := HGC.out
          have hbN : ∀ o x, w.cell? ⟨b, o, none⟩ = some x → wr.cell? ⟨b, o, none⟩ = some x := fun o x hx => (hb.cell (p := ⟨b, o, none⟩) (by exact hbB)).trans hx
          have hkk := hgc (4 * t + f) hk
          rw [show off + 5 * (4 * t + f) = off + t * 20 + f * 5 by omega] at hkk
          have p := hbN _ _ hkk.1
          have p0 : wr.cell? ⟨b, off + t * 20 + f * 5 + 1, none⟩ = some (.int .i64 (G.pm (4 * t + f) 0)) := hbN _ _ (hkk.2 0 (by omega))
          have p1 : wr.cell? ⟨b, off + t * 20 + f * 5 + 2, none⟩ = some (.int .i64 (G.pm (4 * t + f) 1)) := hbN _ _ (hkk.2 1 (by omega))
          have p2 : wr.cell? ⟨b, off + t * 20 + f * 5 + 3, none⟩ = some (.int .i64 (G.pm (4 * t + f) 2)) := hbN _ _ (hkk.2 2 (by omega))
          have p3 : wr.cell? ⟨b, off + t * 20 + f * 5 + 4, none⟩ = some (.int .i64 (G.pm (4 * t + f) 3)) := hbN _ _ (hkk.2 3 (by omega))
          have t0 : 0 ≤ (t : Int) := by omega
          have tn : (t : Int) < (G.n : Int) := by omega
          have f0 : 0 ≤ (f : Int) := by omega
          have f4 : (f : Int) < 4 := by omega
          have hokk := HO.out.2 (4 * t + f) hk
          by_cases hno : noneB G (4 * t + f) = true
          · simp only [noneB, all4, Bool.and_eq_true, beq_iff_eq] at hno
            obtain ⟨n1, ⟨⟨n2, n3⟩, n4⟩, n5⟩ := hno
            rw [n1] at p
            rw [n2] at p0
            rw [n3] at p1
            rw [n4] at p2
            rw [n5] at p3
            have he : ∀ w, (Op.equalIn 10000 85 (.agg #[.int .i64 0, .int .i64 0, .int .i64 0, .int .i64 0]) (.agg #[.int .i64 0, .int .i64 0, .int .i64 0, .int .i64 0])).run Try.prog w = .ok true w := fun w => run_equal_P4r 9998 0 0 0 0 w
            clear hga hgc hbN hkk hokk n1 n2 n3 n4 n5 hb
            go_wp2
            go_roundw
            case rel => exact ⟨f + 1, by omega, rfl, cell_al HK.out.1 _, HK.out.2.alloc (by have := HK.out.2.size; have := HN.out; omega) _⟩
            case measure => simp [intOf]; omega
          · have hno' : noneB G (4 * t + f) = false := by simpa using hno
            have km : (4 * t + f) % 4 = f := by omega
            have kd : (4 * t + f) / 4 = t := by omega
            simp only [okB, hno', Bool.false_or, Bool.and_eq_true, Bool.not_eq_true', inTetB, decide_eq_true_eq] at hokk
            obtain ⟨⟨⟨⟨h0, h1⟩, hvf⟩, hsf⟩, hmt⟩ := hokk
            have hvr := checkR_valid HO.out.1 hk (by omega)
            have hin := inB_iff.1 (validR_in hvr f hf4)
            have hbk : G.back (4 * t + f) < 4 * G.n := by unfold Gl.back; rw [km]; omega
            have hcj := hgc (G.back (4 * t + f)) hbk
            have ea : off + 5 * G.back (4 * t + f) = off + (G.tet (4 * t + f)).toNat * 20 + (G.pm (4 * t + f) f).toNat * 5 := by unfold Gl.back; rw [km]; omega
            rw [ea] at hcj
            obtain ⟨J, hJ⟩ : ∃ J, J = G.back (4 * t + f) := ⟨_, rfl⟩
            rw [← hJ] at hcj
            have g0 := hbN _ _ hcj.1
            have g1 := hbN _ _ (hcj.2 0 (by omega))
            have g2 := hbN _ _ (hcj.2 1 (by omega))
            have g3 := hbN _ _ (hcj.2 2 (by omega))
            have g4 := hbN _ _ (hcj.2 3 (by omega))
            have hme : (G.tet J == (t : Int) && (G.pm J 0 == invF (G.pm (4 * t + f)) 0 && (G.pm J 1 == invF (G.pm (4 * t + f)) 1 && (G.pm J 2 == invF (G.pm (4 * t + f)) 2 && G.pm J 3 == invF (G.pm (4 * t + f)) 3)))) = true := by
              have h := hmt
              rw [matchB, ← hJ, kd] at h
              have hpp : G.p (4 * t + f) = G.pm (4 * t + f) := rfl
              rw [hpp] at h
              simpa [all4, Bool.and_assoc] using h
            have hsf2 : (G.tet (4 * t + f) == (t : Int) && G.pm (4 * t + f) f == (f : Int)) = false := by rw [selfB, km, kd] at hsf; exact hsf
            have dm1 : (G.tet (4 * t + f) == -1) = false := by simp; omega
            have d0 : decide (G.tet (4 * t + f) < 0) = false := by simpa using h0
            have d1 : decide ((G.n : Int) ≤ G.tet (4 * t + f)) = false := by simpa using h1
            have hy0 := hin.1
            have hy1 : G.pm (4 * t + f) f < 4 := by omega
            have cV := fun W => validR_walk (G.pm (4 * t + f)) W
            rw [hvr] at cV
            have cI := fun W => inverseR_walk (G.pm (4 * t + f)) W hvr
            unfold P4 at cV cI
            have HV := Lib.hid (And.intro cV cI)
            have HM := Lib.hid hme
            obtain ⟨D, hD⟩ : ∃ D, D = wr.heap.size := ⟨_, rfl⟩
            have hND : N ≤ D := by have := HK.out.2.size; have := HN.out; omega
            clear hga hgc hbN hkk hno hno' hvf hsf hmt hvr hin hcj ea hJ hme cV cI hb hbk
            have hE : ((G.tet (4 * t + f) == (t : Int)) = true ∧ (G.pm (4 * t + f) f == (f : Int)) = false) ∨ (G.tet (4 * t + f) == (t : Int)) = false := by
              cases h : (G.tet (4 * t + f) == (t : Int)) with
              | true => rw [h, Bool.true_and] at hsf2; exact .inl ⟨rfl, hsf2⟩
              | false => exact .inr rfl
            clear hsf2
            have hX : ∀ (W W' : World), W = wr.alloc (.cells #[.int .i64 (G.tet (4 * t + f)), .int .i64 (G.pm (4 * t + f) 0), .int .i64 (G.pm (4 * t + f) 1), .int .i64 (G.pm (4 * t + f) 2), .int .i64 (G.pm (4 * t + f) 3)] 87) → Below W.heap.size W W' → W'.cell? ⟨wr.heap.size, 0, none⟩ = some (.int .i64 (G.tet (4 * t + f))) ∧ W'.cell? ⟨wr.heap.size, 1, none⟩ = some (.int .i64 (G.pm (4 * t + f) 0)) ∧ W'.cell? ⟨wr.heap.size, 2, none⟩ = some (.int .i64 (G.pm (4 * t + f) 1)) ∧ W'.cell? ⟨wr.heap.size, 3, none⟩ = some (.int .i64 (G.pm (4 * t + f) 2)) ∧ W'.cell? ⟨wr.heap.size, 4, none⟩ = some (.int .i64 (G.pm (4 * t + f) 3)) ∧ W'.cell? ⟨wr.heap.size, 1 + f, none⟩ = some (.int .i64 (G.pm (4 * t + f) f)) ∧ W'.cell? ⟨N, 0, none⟩ = some (.slice (some ⟨b, off, none⟩) G.n cap) ∧ (W'.cell? ⟨b, off + (G.tet (4 * t + f)).toNat * 20 + (G.pm (4 * t + f) f).toNat * 5, none⟩ = some (.int .i64 (G.tet J)) ∧ W'.cell? ⟨b, off + (G.tet (4 * t + f)).toNat * 20 + (G.pm (4 * t + f) f).toNat * 5 + 1, none⟩ = some (.int .i64 (G.pm J 0)) ∧ W'.cell? ⟨b, off + (G.tet (4 * t + f)).toNat * 20 + (G.pm (4 * t + f) f).toNat * 5 + 2, none⟩ = some (.int .i64 (G.pm J 1)) ∧ W'.cell? ⟨b, off + (G.tet (4 * t + f)).toNat * 20 + (G.pm (4 * t + f) f).toNat * 5 + 3, none⟩ = some (.int .i64 (G.pm J 2)) ∧ W'.cell? ⟨b, off + (G.tet (4 * t + f)).toNat * 20 + (G.pm (4 * t + f) f).toNat * 5 + 4, none⟩ = some (.int .i64 (G.pm J 3))) ∧ Below N w W' := by
              intro W W' hWe hb1
              obtain ⟨hold, hnew, hB⟩ := copied (pm := G.pm (4 * t + f)) (by have := HK.out.2.size; have := HN.out; omega) HK.out.2 hWe hb1
              exact ⟨hnew 0 _ rfl, hnew 1 _ rfl, hnew 2 _ rfl, hnew 3 _ rfl, hnew 4 _ rfl, hnew _ _ (fcells_at _ _ f hf4), hold _ _ HK.out.1, ⟨hold _ _ g0, hold _ _ g1, hold _ _ g2, hold _ _ g3, hold _ _ g4⟩, hB⟩
            have HX := Lib.hid hX
            clear hX g0 g1 g2 g3 g4
            rcases hE with ⟨e1, e2⟩ | e1
            · go_wp2_with (go_at_call 63; (with_reducible refine (HV.out.1 _).mono ?_); rintro e w1 ⟨rfl, hb1⟩; obtain ⟨x0, x1, x2, x3, x4, xf, xc, xg, xb⟩ := HX.out _ _ rfl hb1; have H1 := Lib.hid (And.intro xg (And.intro xb hb1)); clear hb1 xg xb)
              obtain ⟨⟨g0, g1, g2, g3, g4⟩, xb, hb1⟩ := H1.out
              replace x0 : w1.drew.cell? ⟨wr.heap.size, 0, none⟩ = some (.int .i64 (G.tet (4 * t + f))) := x0
              replace x1 : w1.drew.cell? ⟨wr.heap.size, 1, none⟩ = some (.int .i64 (G.pm (4 * t + f) 0)) := x1
              replace x2 : w1.drew.cell? ⟨wr.heap.size, 2, none⟩ = some (.int .i64 (G.pm (4 * t + f) 1)) := x2
              replace x3 : w1.drew.cell? ⟨wr.heap.size, 3, none⟩ = some (.int .i64 (G.pm (4 * t + f) 2)) := x3
              replace x4 : w1.drew.cell? ⟨wr.heap.size, 4, none⟩ = some (.int .i64 (G.pm (4 * t + f) 3)) := x4
              replace xf : w1.drew.cell? ⟨wr.heap.size, 1 + f, none⟩ = some (.int .i64 (G.pm (4 * t + f) f)) := xf
              replace xc : w1.drew.cell? ⟨N, 0, none⟩ = some (.slice (some ⟨b, off, none⟩) G.n cap) := xc
              replace g0 : w1.drew.cell? ⟨b, off + (G.tet (4 * t + f)).toNat * 20 + (G.pm (4 * t + f) f).toNat * 5, none⟩ = some (.int .i64 (G.tet J)) := g0
              replace g1 : w1.drew.cell? ⟨b, off + (G.tet (4 * t + f)).toNat * 20 + (G.pm (4 * t + f) f).toNat * 5 + 1, none⟩ = some (.int .i64 (G.pm J 0)) := g1
              replace g2 : w1.drew.cell? ⟨b, off + (G.tet (4 * t + f)).toNat * 20 + (G.pm (4 * t + f) f).toNat * 5 + 2, none⟩ = some (.int .i64 (G.pm J 1)) := g2
              replace g3 : w1.drew.cell? ⟨b, off + (G.tet (4 * t + f)).toNat * 20 + (G.pm (4 * t + f) f).toNat * 5 + 3, none⟩ = some (.int .i64 (G.pm J 2)) := g3
              replace g4 : w1.drew.cell? ⟨b, off + (G.tet (4 * t + f)).toNat * 20 + (G.pm (4 * t + f) f).toNat * 5 + 4, none⟩ = some (.int .i64 (G.pm J 3)) := g4
              have lx0 := lt_of_cell x0
              have lx1 := lt_of_cell x1
              have lx2 := lt_of_cell x2
              have lx3 := lt_of_cell x3
              have lx4 := lt_of_cell x4
              have lxf := lt_of_cell xf
              have lxc := lt_of_cell xc
              have lg0 := lt_of_cell g0
              have lg1 := lt_of_cell g1
              have lg2 := lt_of_cell g2
              have lg3 := lt_of_cell g3
              have lg4 := lt_of_cell g4
              simp only at lx0 lx1 lx2 lx3 lx4 lxf lxc lg0 lg1 lg2 lg3 lg4
              have HB := Lib.hid (below_dr xb)
              clear xb hb1
              have he2 := fun w => run_equal_face (G.tet J) (t : Int) (G.pm J 0) (G.pm J 1) (G.pm J 2) (G.pm J 3) (invF (G.pm (4 * t + f)) 0) (invF (G.pm (4 * t + f)) 1) (invF (G.pm (4 * t + f)) 2) (invF (G.pm (4 * t + f)) 3) w
              simp only [HM.out] at he2
              go_region_held3 (fun w' => w'.cell? ⟨wr.heap.size, 0, none⟩ = some (.int .i64 (G.tet (4 * t + f))) ∧ w'.cell? ⟨wr.heap.size, 1, none⟩ = some (.int .i64 (G.pm (4 * t + f) 0)) ∧ w'.cell? ⟨wr.heap.size, 2, none⟩ = some (.int .i64 (G.pm (4 * t + f) 1)) ∧ w'.cell? ⟨wr.heap.size, 3, none⟩ = some (.int .i64 (G.pm (4 * t + f) 2)) ∧ w'.cell? ⟨wr.heap.size, 4, none⟩ = some (.int .i64 (G.pm (4 * t + f) 3)) ∧ w'.cell? ⟨wr.heap.size, 1 + f, none⟩ = some (.int .i64 (G.pm (4 * t + f) f)) ∧ w'.cell? ⟨N, 0, none⟩ = some (.slice (some ⟨b, off, none⟩) G.n cap) ∧ w'.cell? ⟨b, off + (G.tet (4 * t + f)).toNat * 20 + (G.pm (4 * t + f) f).toNat * 5, none⟩ = some (.int .i64 (G.tet J)) ∧ w'.cell? ⟨b, off + (G.tet (4 * t + f)).toNat * 20 + (G.pm (4 * t + f) f).toNat * 5 + 1, none⟩ = some (.int .i64 (G.pm J 0)) ∧ w'.cell? ⟨b, off + (G.tet (4 * t + f)).toNat * 20 + (G.pm (4 * t + f) f).toNat * 5 + 2, none⟩ = some (.int .i64 (G.pm J 1)) ∧ w'.cell? ⟨b, off + (G.tet (4 * t + f)).toNat * 20 + (G.pm (4 * t + f) f).toNat * 5 + 3, none⟩ = some (.int .i64 (G.pm J 2)) ∧ w'.cell? ⟨b, off + (G.tet (4 * t + f)).toNat * 20 + (G.pm (4 * t + f) f).toNat * 5 + 4, none⟩ = some (.int .i64 (G.pm J 3)))
                (first
                  | exact ⟨x0, x1, x2, x3, x4, xf, xc, g0, g1, g2, g3, g4⟩
                  | exact ⟨(hb2.cell (p := ⟨wr.heap.size, _, none⟩) (by exact lx0)).trans x0, (hb2.cell (p := ⟨wr.heap.size, _, none⟩) (by exact lx1)).trans x1, (hb2.cell (p := ⟨wr.heap.size, _, none⟩) (by exact lx2)).trans x2, (hb2.cell (p := ⟨wr.heap.size, _, none⟩) (by exact lx3)).trans x3, (hb2.cell (p := ⟨wr.heap.size, _, none⟩) (by exact lx4)).trans x4, (hb2.cell (p := ⟨wr.heap.size, _, none⟩) (by exact lxf)).trans xf, (hb2.cell (p := ⟨N, _, none⟩) (by exact lxc)).trans xc, (hb2.cell (p := ⟨b, _, none⟩) (by exact lg0)).trans g0, (hb2.cell (p := ⟨b, _, none⟩) (by exact lg1)).trans g1, (hb2.cell (p := ⟨b, _, none⟩) (by exact lg2)).trans g2, (hb2.cell (p := ⟨b, _, none⟩) (by exact lg3)).trans g3, (hb2.cell (p := ⟨b, _, none⟩) (by exact lg4)).trans g4⟩)
                (first | (go_at_call 64; (with_reducible refine (HV.out.2 _).mono ?_); rintro e w2 ⟨rfl, hb2⟩))
              go_wp2
              go_roundw
              case rel => exact ⟨f + 1, by omega, rfl, (hb2.cell (p := ⟨N, 0, none⟩) (by exact lxc)).trans xc, HB.out.trans (hb2.mono (by simp at lxc ⊢; omega))⟩
              case measure => simp [intOf]; omega
            · go_wp2_with (go_at_call 63; (with_reducible refine (HV.out.1 _).mono ?_); rintro e w1 ⟨rfl, hb1⟩; obtain ⟨x0, x1, x2, x3, x4, xf, xc, xg, xb⟩ := HX.out _ _ rfl hb1; have H1 := Lib.hid (And.intro xg (And.intro xb hb1)); clear hb1 xg xb)
              obtain ⟨⟨g0, g1, g2, g3, g4⟩, xb, hb1⟩ := H1.out
              replace x0 : w1.drew.cell? ⟨wr.heap.size, 0, none⟩ = some (.int .i64 (G.tet (4 * t + f))) := x0
              replace x1 : w1.drew.cell? ⟨wr.heap.size, 1, none⟩ = some (.int .i64 (G.pm (4 * t + f) 0)) := x1
              replace x2 : w1.drew.cell? ⟨wr.heap.size, 2, none⟩ = some (.int .i64 (G.pm (4 * t + f) 1)) := x2
              replace x3 : w1.drew.cell? ⟨wr.heap.size, 3, none⟩ = some (.int .i64 (G.pm (4 * t + f) 2)) := x3
              replace x4 : w1.drew.cell? ⟨wr.heap.size, 4, none⟩ = some (.int .i64 (G.pm (4 * t + f) 3)) := x4
              replace xf : w1.drew.cell? ⟨wr.heap.size, 1 + f, none⟩ = some (.int .i64 (G.pm (4 * t + f) f)) := xf
              replace xc : w1.drew.cell? ⟨N, 0, none⟩ = some (.slice (some ⟨b, off, none⟩) G.n cap) := xc
              replace g0 : w1.drew.cell? ⟨b, off + (G.tet (4 * t + f)).toNat * 20 + (G.pm (4 * t + f) f).toNat * 5, none⟩ = some (.int .i64 (G.tet J)) := g0
              replace g1 : w1.drew.cell? ⟨b, off + (G.tet (4 * t + f)).toNat * 20 + (G.pm (4 * t + f) f).toNat * 5 + 1, none⟩ = some (.int .i64 (G.pm J 0)) := g1
              replace g2 : w1.drew.cell? ⟨b, off + (G.tet (4 * t + f)).toNat * 20 + (G.pm (4 * t + f) f).toNat * 5 + 2, none⟩ = some (.int .i64 (G.pm J 1)) := g2
              replace g3 : w1.drew.cell? ⟨b, off + (G.tet (4 * t + f)).toNat * 20 + (G.pm (4 * t + f) f).toNat * 5 + 3, none⟩ = some (.int .i64 (G.pm J 2)) := g3
              replace g4 : w1.drew.cell? ⟨b, off + (G.tet (4 * t + f)).toNat * 20 + (G.pm (4 * t + f) f).toNat * 5 + 4, none⟩ = some (.int .i64 (G.pm J 3)) := g4
              have lx0 := lt_of_cell x0
              have lx1 := lt_of_cell x1
              have lx2 := lt_of_cell x2
              have lx3 := lt_of_cell x3
              have lx4 := lt_of_cell x4
              have lxf := lt_of_cell xf
              have lxc := lt_of_cell xc
              have lg0 := lt_of_cell g0
              have lg1 := lt_of_cell g1
              have lg2 := lt_of_cell g2
              have lg3 := lt_of_cell g3
              have lg4 := lt_of_cell g4
              simp only at lx0 lx1 lx2 lx3 lx4 lxf lxc lg0 lg1 lg2 lg3 lg4
              have HB := Lib.hid (below_dr xb)
              clear xb hb1
              have he2 := fun w => run_equal_face (G.tet J) (t : Int) (G.pm J 0) (G.pm J 1) (G.pm J 2) (G.pm J 3) (invF (G.pm (4 * t + f)) 0) (invF (G.pm (4 * t + f)) 1) (invF (G.pm (4 * t + f)) 2) (invF (G.pm (4 * t + f)) 3) w
              simp only [HM.out] at he2
              go_region_held3 (fun w' => w'.cell? ⟨wr.heap.size, 0, none⟩ = some (.int .i64 (G.tet (4 * t + f))) ∧ w'.cell? ⟨wr.heap.size, 1, none⟩ = some (.int .i64 (G.pm (4 * t + f) 0)) ∧ w'.cell? ⟨wr.heap.size, 2, none⟩ = some (.int .i64 (G.pm (4 * t + f) 1)) ∧ w'.cell? ⟨wr.heap.size, 3, none⟩ = some (.int .i64 (G.pm (4 * t + f) 2)) ∧ w'.cell? ⟨wr.heap.size, 4, none⟩ = some (.int .i64 (G.pm (4 * t + f) 3)) ∧ w'.cell? ⟨wr.heap.size, 1 + f, none⟩ = some (.int .i64 (G.pm (4 * t + f) f)) ∧ w'.cell? ⟨N, 0, none⟩ = some (.slice (some ⟨b, off, none⟩) G.n cap) ∧ w'.cell? ⟨b, off + (G.tet (4 * t + f)).toNat * 20 + (G.pm (4 * t + f) f).toNat * 5, none⟩ = some (.int .i64 (G.tet J)) ∧ w'.cell? ⟨b, off + (G.tet (4 * t + f)).toNat * 20 + (G.pm (4 * t + f) f).toNat * 5 + 1, none⟩ = some (.int .i64 (G.pm J 0)) ∧ w'.cell? ⟨b, off + (G.tet (4 * t + f)).toNat * 20 + (G.pm (4 * t + f) f).toNat * 5 + 2, none⟩ = some (.int .i64 (G.pm J 1)) ∧ w'.cell? ⟨b, off + (G.tet (4 * t + f)).toNat * 20 + (G.pm (4 * t + f) f).toNat * 5 + 3, none⟩ = some (.int .i64 (G.pm J 2)) ∧ w'.cell? ⟨b, off + (G.tet (4 * t + f)).toNat * 20 + (G.pm (4 * t + f) f).toNat * 5 + 4, none⟩ = some (.int .i64 (G.pm J 3)))
                (first
                  | exact ⟨x0, x1, x2, x3, x4, xf, xc, g0, g1, g2, g3, g4⟩
                  | exact ⟨(hb2.cell (p := ⟨wr.heap.size, _, none⟩) (by exact lx0)).trans x0, (hb2.cell (p := ⟨wr.heap.size, _, none⟩) (by exact lx1)).trans x1, (hb2.cell (p := ⟨wr.heap.size, _, none⟩) (by exact lx2)).trans x2, (hb2.cell (p := ⟨wr.heap.size, _, none⟩) (by exact lx3)).trans x3, (hb2.cell (p := ⟨wr.heap.size, _, none⟩) (by exact lx4)).trans x4, (hb2.cell (p := ⟨wr.heap.size, _, none⟩) (by exact lxf)).trans xf, (hb2.cell (p := ⟨N, _, none⟩) (by exact lxc)).trans xc, (hb2.cell (p := ⟨b, _, none⟩) (by exact lg0)).trans g0, (hb2.cell (p := ⟨b, _, none⟩) (by exact lg1)).trans g1, (hb2.cell (p := ⟨b, _, none⟩) (by exact lg2)).trans g2, (hb2.cell (p := ⟨b, _, none⟩) (by exact lg3)).trans g3, (hb2.cell (p := ⟨b, _, none⟩) (by exact lg4)).trans g4⟩)
                (first | (go_at_call 64; (with_reducible refine (HV.out.2 _).mono ?_); rintro e w2 ⟨rfl, hb2⟩))
              go_wp2
              go_roundw
              case rel => exact ⟨f + 1, by omega, rfl, (hb2.cell (p := ⟨N, 0, none⟩) (by exact lxc)).trans xc, HB.out.trans (hb2.mono (by simp at lxc ⊢; omega))⟩
              case measure => simp [intOf]; omega
        · obtain rfl : f = 4 := by omega
          clear hc hb
          go_wp2
          go_roundw
          case rel => exact ⟨t + 1, by omega, rfl, HK.out⟩
          case measure => simp [intOf]; omega
    · obtain rfl : t = G.n := by omega
      clear hc hb
      go_wp2
      go_ret
      exact ⟨rfl, HN.out ▸ HK.out.2⟩
end Go.Proofs.Ytlckpgahijlmoaa
