/- Classes of copies of a gluing: the loops stay inside each copy. Plain laws. -/
import Derived.Test.YtlckpgahijlmoaaQ36
import Derived.StillTailTactics
/- R02's classes of edges. No condition. -/
namespace Go.Proofs.Ytlckpgahijlmoaa
open Go.RowKit Go.Shelf

/-- one face: the classes of edges -/
def erE (G : Gl) (k e : Nat) (r : Nat → Nat) : Nat → Nat := if pA e = k % 4 ∨ pB e = k % 4 then r else joinR r (6 * (k / 4) + e) (6 * G.T k + edN (G.P k (pA e)) (G.P k (pB e)))
def erF (G : Gl) (k : Nat) (r : Nat → Nat) : Nat → Nat := if G.tet k < 0 then r else lp (erE G k) r 6
theorem erF_ge {G : Gl} {k : Nat} {r : Nat → Nat} (h : ¬ G.tet k < 0) : erF G k r = lp (erE G k) r 6 := if_neg h
theorem erF_lt {G : Gl} {k : Nat} {r : Nat → Nat} (h : G.tet k < 0) : erF G k r = r := if_pos h
theorem erE_ne {G : Gl} {k e : Nat} {r : Nat → Nat} (h1 : pA e ≠ k % 4) (h2 : pB e ≠ k % 4) : erE G k e r = joinR r (6 * (k / 4) + e) (6 * G.T k + edN (G.P k (pA e)) (G.P k (pB e))) := if_neg (by simp [h1, h2])
theorem erE_eq {G : Gl} {k e : Nat} {r : Nat → Nat} (h : pA e = k % 4 ∨ pB e = k % 4) : erE G k e r = r := if_pos h
theorem six_n (n : Nat) : ((6 * n : Nat) : Int) = 6 * (n : Int) := by omega
set_option maxRecDepth 20000 in
set_option maxHeartbeats 1000000 in
theorem edges_walk (G : Gl) (hok : checkB G = true) (w : World) (v : Value) (hv : GlAt w.heap.size w v G) :
    Calls Try.prog 49 #[.agg #[v]] w fun e w' => ∃ d, e = .returned (.tuple #[.slice (some ⟨d, 0, none⟩) (6 * G.n) (6 * G.n), .int .i64 (cnt (lp (erF G) id (4 * G.n)) (6 * G.n) : Nat)]) ∧ w.heap.size ≤ d ∧ IntRow w' d (6 * G.n) (fun i => (cnt (lp (erF G) id (4 * G.n)) (lp (erF G) id (4 * G.n) i) : Nat)) ∧ Below w.heap.size w w' := by
  have hn : G.n ≤ 1000 := by simp only [checkB, Bool.and_eq_true, decide_eq_true_eq] at hok; exact hok.1
  have HO := Lib.hid hok; clear hok
  have HV := Lib.hid hv
  obtain ⟨a, b, off, cap, rfl, ha, hc⟩ := hv
  have HGC := Lib.hid (And.intro ha hc); clear ha hc
  have hs := fun W => singles_walk (6 * G.n) (by omega) W
  rw [six_n] at hs
  have HS := Lib.hid hs; clear hs
  go_enter Try.func49, Try.ntmps49
  go_wp2_with fail
  refine (HS.out _).mono ?_
  rintro e w1 ⟨rfl, hu, hb⟩
  have h1 : FT w w1 w.heap.size G.n a cap (6 * G.n) id := by
    simp only [World.size_alloc] at hu hb
    exact ⟨(hb.cell (p := ⟨w.heap.size, 0, none⟩) (by simp)).trans (World.cell?_alloc_at _ _ _ _ rfl), hu, ((Below.refl _ w).alloc (Nat.le_refl _) _).trans (hb.mono (by omega))⟩
  simp only [World.size_alloc] at *
  have H1 := Lib.hid h1
  have c0 := h1.c0
  clear hb hu h1
  generalize hN : w.heap.size = N at *
  go_wp2
  go_loopw [20] (fun i wr => ∃ t : Nat, t ≤ G.n ∧ i = .int .i64 t ∧ FT w wr N G.n a cap (6 * G.n) (lp (erF G) id (4 * t))) (fun i _ => G.n - (intOf i).toNat)
  case atStart => exact ⟨0, by omega, rfl, H1.out⟩
  case round =>
    clear H1 c0
    obtain ⟨t, ht, rfl, hR⟩ := hrel
    have HR := Lib.hid hR
    rcases Nat.lt_or_ge t G.n with htn | htn
    · obtain ⟨hga, hgc⟩ := HGC.out
      obtain ⟨rfl, hbB⟩ := hga (by omega)
      have hrow := rowCells (W := wr) (b := b) (off := off) (fun k hk => ⟨(hR.bel.cell (p := ⟨b, _, none⟩) (by show b < N; omega)).trans (hgc k hk).1, fun i hi => (hR.bel.cell (p := ⟨b, _, none⟩) (by show b < N; omega)).trans ((hgc k hk).2 i hi)⟩) t htn
      have hrg := hrow.range
      have t0 : 0 ≤ (t : Int) := by omega
      have tn : (t : Int) < (G.n : Int) := by omega
      clear hR hga hgc hrow
      go_wp2_with (first | (refine wpList_load_row' rfl 88 (.tmp 23) rfl b (off + t * 20) rfl (rowA G t) _ hrg Try.underlying88 rfl (by kernel_rfl) ?_) | (refine wpList_store_new (w := wr) rfl 88 (.tmp 6) (.tmp 24) rfl _ (rowA G t) rfl rfl (by kernel_rfl) rfl (rowA_one G t) ?_) | (refine wpList_load_new (w := wr) rfl 88 (.tmp 6) rfl (rowA G t) 4 87 rfl Try.underlying88 (by kernel_rfl) ?_))
      refine wp_named fun W3 hW3 => ?_
      have h3 : FT w W3 N G.n (some ⟨b, off, none⟩) cap (6 * G.n) (lp (erF G) id (4 * t + 0)) := by rw [hW3]; exact HR.out.al _
      have H3 := Lib.hid h3
      clear h3 hW3 HR hrg
      go_loopw [26] (fun i wr => ∃ f : Nat, f ≤ 4 ∧ i = .int .i64 f ∧ FT w wr N G.n (some ⟨b, off, none⟩) cap (6 * G.n) (lp (erF G) id (4 * t + f))) (fun i _ => 4 - (intOf i).toNat)
      case atStart => exact ⟨0, by omega, rfl, H3.out⟩
      case round =>
        clear H3
        obtain ⟨f, hf, rfl, hR⟩ := hrel
        have HR := Lib.hid hR
        clear hR
        rcases Nat.lt_or_ge f 4 with hf4 | hf4
        · have hix := fun w => row_index G t f hf4 w
          unfold faceA at hix
          have hkk : 4 * t + f < 4 * G.n := by omega
          by_cases hneg : G.tet (4 * t + f) < 0
          · have q1 : decide (0 ≤ G.tet (4 * t + f)) = false := by simp; omega
            have HX := Lib.hid hneg
            clear hneg
            generalize hT : G.tet (4 * t + f) = T at *
            have HT := Lib.hid hT; clear hT
            have hE : ∀ j v, (fcells T (G.pm (4 * t + f)))[j]? = some v → (wr.alloc (.cells (fcells T (G.pm (4 * t + f))) 87)).cell? ⟨wr.heap.size, j, none⟩ = some v := fun j v hv => (World.cell?_alloc_at _ _ _ _ rfl).trans hv
            have HE := Lib.hid (hE 0 _ rfl)
            unfold fcells at HE
            clear hE
            go_wp2
            refine wp_named fun W4 hW => ?_
            obtain ⟨E, hEE⟩ : ∃ E, E = wr.heap.size := ⟨_, rfl⟩
            have h4 : FT w W4 N G.n (some ⟨b, off, none⟩) cap (6 * G.n) (lp (erF G) id (4 * t + f)) ∧ W4.cell? ⟨E, 0, none⟩ = some (.int .i64 T) := by
              rw [hW, hEE]; exact ⟨HR.out.al _, HE.out⟩
            rw [← hEE]
            have H4 := Lib.hid h4
            clear h4 hW HE HR hix hEE
            go_loopw [9] (fun i wr => i = .int .i64 0 ∧ FT w wr N G.n (some ⟨b, off, none⟩) cap (6 * G.n) (lp (erF G) id (4 * t + f)) ∧ wr.cell? ⟨E, 0, none⟩ = some (.int .i64 T)) (fun _ _ => 0)
            case atStart => exact ⟨rfl, H4.out⟩
            case round =>
              clear H4
              obtain ⟨rfl, hR, c0⟩ := hrel
              have HR := Lib.hid hR
              clear hR
              go_wp2
              go_roundw
              case rel => exact ⟨f + 1, by omega, rfl, by
                have e : lp (erF G) id (4 * t + (f + 1)) = lp (erF G) id (4 * t + f) := by
                  rw [← Nat.add_assoc, lp_succ]
                  exact erF_lt (by rw [HT.out]; exact HX.out)
                rw [e]; exact HR.out⟩
              case measure => simp [intOf]; omega
          · obtain ⟨e1, e2, e3⟩ := ok_face HO.out hkk hneg
            have q1 : decide (0 ≤ G.tet (4 * t + f)) = true := by simp; omega
            have HX := Lib.hid (And.intro hneg (And.intro e3 (fun i j hi hj hij => ok_inj HO.out hkk hneg i j hi hj hij)))
            rw [e1] at q1 hix
            have hfe := FE.of (q := G.pm (4 * t + f)) (T := (G.T (4 * t + f) : Nat)) HR.out (fun i hi => (e3 i hi).1)
            have HE := Lib.hid hfe
            unfold fcells at HE
            clear hneg hfe e1 e3
            generalize hT : G.T (4 * t + f) = T at *
            have HT := Lib.hid hT; clear hT
            go_wp2
            refine wp_named fun W4 hW => ?_
            obtain ⟨E, hEE⟩ : ∃ E, E = wr.heap.size := ⟨_, rfl⟩
            have h4 : FE w W4 N G.n (some ⟨b, off, none⟩) cap (6 * G.n) E (T : Nat) (G.P (4 * t + f)) (lp (erE G (4 * t + f)) (lp (erF G) id (4 * t + f)) 0) := by
              rw [hW, hEE]; exact HE.out
            rw [← hEE]
            have H4 := Lib.hid h4
            clear h4 hW HE HR hix hEE
            go_loopw [9] (fun i wr => ∃ j : Nat, j ≤ 6 ∧ i = .int .i64 j ∧ FE w wr N G.n (some ⟨b, off, none⟩) cap (6 * G.n) E (T : Nat) (G.P (4 * t + f)) (lp (erE G (4 * t + f)) (lp (erF G) id (4 * t + f)) j)) (fun i _ => 6 - (intOf i).toNat)
            case atStart => exact ⟨0, by omega, rfl, H4.out⟩
            case round =>
              clear H4
              obtain ⟨j, hj, rfl, hR⟩ := hrel
              have c0 := hR.e0
              have HR := Lib.hid hR
              rcases Nat.lt_or_ge j 6 with hj4 | hj4
              · have j6 : (j : Int) < 6 := by omega
                obtain ⟨x, hx⟩ : ∃ x, x = pA j := ⟨_, rfl⟩
                obtain ⟨y, hy⟩ : ∃ y, y = pB j := ⟨_, rfl⟩
                have hE := ends_fact j hj4
                have hrw := fun W => rends_walk j hj4 W
                rw [← hx, ← hy] at hE hrw
                obtain ⟨hxy, hy4, -, -⟩ := hE
                have hx4 : x < 4 := by omega
                have HRW := Lib.hid hrw
                have HXY := Lib.hid (And.intro hx hy)
                have c1 := hR.e1 x hx4
                have c2 := hR.e1 y hy4
                clear hR hrw hx hy
                by_cases exf : x = f
                · have b1 := natbne_false exf
                  have HJ := Lib.hid exf; clear exf c1 c2
                  go_wp2_with (go_at_call 90; (with_reducible refine (HRW.out _).mono ?_); rintro e w5 ⟨rfl, rfl⟩)
                  go_roundw
                  case rel => exact ⟨j + 1, by omega, rfl, by rw [lp_succ, erE_eq (.inl (by rw [← HXY.out.1, HJ.out]; omega))]; exact HR.out⟩
                  case measure => simp [intOf]; omega
                · have b1 := natbne_true exf
                  by_cases eyf : y = f
                  · have b2 := natbne_false eyf
                    have HJ := Lib.hid eyf; clear exf eyf c1 c2
                    go_wp2_with (go_at_call 90; (with_reducible refine (HRW.out _).mono ?_); rintro e w5 ⟨rfl, rfl⟩)
                    go_roundw
                    case rel => exact ⟨j + 1, by omega, rfl, by rw [lp_succ, erE_eq (.inr (by rw [← HXY.out.2, HJ.out]; omega))]; exact HR.out⟩
                    case measure => simp [intOf]; omega
                  · have b2 := natbne_true eyf
                    have d0 : wr.drew.cell? ⟨E, 0, none⟩ = some (.int .i64 ((T : Nat) : Int)) := c0
                    have d1 : wr.drew.cell? ⟨E, 1 + x, none⟩ = some (.int .i64 ((G.P (4 * t + f) x : Nat) : Int)) := c1
                    have d2 : wr.drew.cell? ⟨E, 1 + y, none⟩ = some (.int .i64 ((G.P (4 * t + f) y : Nat) : Int)) := c2
                    have hPi := (HX.out.2.1 x hx4).2
                    have hPj := (HX.out.2.1 y hy4).2
                    have hPne := HX.out.2.2 x y hx4 hy4 (by omega)
                    have hed := (edN_eq (G.P (4 * t + f) x) (G.P (4 * t + f) y) hPi hPj hPne).2
                    have hcl := fun W => redge_walk (G.P (4 * t + f) x) (G.P (4 * t + f) y) hPi hPj hPne W
                    obtain ⟨A, hA⟩ : ∃ A : Nat, A = 6 * t := ⟨_, rfl⟩
                    obtain ⟨I, hI⟩ : ∃ I : Nat, I = 6 * t + j := ⟨_, rfl⟩
                    obtain ⟨C, hC⟩ : ∃ C : Nat, C = 6 * T := ⟨_, rfl⟩
                    obtain ⟨J, hJ⟩ : ∃ J : Nat, J = 6 * T + edN (G.P (4 * t + f) x) (G.P (4 * t + f) y) := ⟨_, rfl⟩
                    have HST := Lib.hid (show lp (erE G (4 * t + f)) (lp (erF G) id (4 * t + f)) (j + 1) = joinR (lp (erE G (4 * t + f)) (lp (erF G) id (4 * t + f)) j) I J by
                      rw [lp_succ, erE_ne (by rw [← HXY.out.1]; omega) (by rw [← HXY.out.2]; omega), show (4 * t + f) / 4 = t by omega, hI, hJ, HT.out, ← HXY.out.1, ← HXY.out.2])
                    have hJn : J < 6 * G.n := by omega
                    have hIn : I < 6 * G.n := by omega
                    generalize hQ : edN (G.P (4 * t + f) x) (G.P (4 * t + f) y) = Q at hed hcl hJ
                    generalize hP : G.P (4 * t + f) x = P at c1 d1 hcl
                    generalize hP' : G.P (4 * t + f) y = P' at c2 d2 hcl
                    have w1 : IntKind.i64.wrap (6 * (t : Int)) = (A : Int) := by rw [IntWalk.i64_in _ (by omega)]; omega
                    have w2 : IntKind.i64.wrap ((A : Int) + (j : Int)) = (I : Int) := by rw [IntWalk.i64_in _ (by omega)]; omega
                    have w3 : IntKind.i64.wrap (6 * (T : Int)) = (C : Int) := by rw [IntWalk.i64_in _ (by omega)]; omega
                    have w4 : IntKind.i64.wrap ((C : Int) + (Q : Int)) = (J : Int) := by rw [IntWalk.i64_in _ (by omega)]; omega
                    have x0 : 0 ≤ (x : Int) := by omega
                    have x4 : (x : Int) < 4 := by omega
                    have y0 : 0 ≤ (y : Int) := by omega
                    have y4 : (y : Int) < 4 := by omega
                    have HCL := Lib.hid hcl
                    clear hP hP' hQ hA hI hC hJ exf eyf hcl hPne hPi hPj hxy
                    go_wp2_with (go_at_call 90; (with_reducible refine (HRW.out _).mono ?_); rintro e w5 ⟨rfl, rfl⟩)
                    refine region_tail 18 (by kernel_rfl) (by kernel_rfl) ?_
                    simp only [List.take_succ_cons, List.take_zero, List.drop_succ_cons, List.drop_zero]
                    repeat (refine wpStill_step (fun K hK => ?_); go_simp; refine hK _ ?_; clear hK K)
                    still_call (HCL.out _)
                    repeat (refine wpStill_step (fun K hK => ?_); go_simp; refine hK _ ?_; clear hK K)
                    refine wpStill_nil ?_
                    clear c0 c1 c2 d0 d1 d2
                    go_wp2_with fail
                    refine (identify_walk _ _ _ I J hIn hJn (by omega) _ HR.out.dr.ft.ur).mono ?_
                    rintro e w2 ⟨rfl, h2, g2⟩
                    have H2 := Lib.hid (HR.out.dr.join h2 g2)
                    clear h2 g2
                    go_wp2
                    go_roundw
                    case rel => exact ⟨j + 1, by omega, rfl, by rw [HST.out]; exact H2.out⟩
                    case measure => simp [intOf]; omega
              · obtain rfl : j = 6 := by omega
                clear hR
                go_wp2
                go_roundw
                case rel => exact ⟨f + 1, by omega, rfl, by
                  have e : lp (erF G) id (4 * t + (f + 1)) = lp (erE G (4 * t + f)) (lp (erF G) id (4 * t + f)) 6 := by
                    rw [← Nat.add_assoc, lp_succ]
                    exact erF_ge (by have := HX.out.1; omega)
                  rw [e]; exact HR.out.ft⟩
                case measure => simp [intOf]; omega
        · obtain rfl : f = 4 := by omega
          go_wp2
          go_roundw
          case rel => exact ⟨t + 1, by omega, rfl, HR.out⟩
          case measure => simp [intOf]; omega
    · obtain rfl : t = G.n := by omega
      clear hR
      go_wp2_with fail
      refine (numbered_walk _ _ _ (by omega) _ HR.out.ur).mono ?_
      rintro e w2 ⟨rfl, hi, hb⟩
      have HI := Lib.hid (And.intro hi hb)
      have hlt := HR.out.lt
      clear hi hb
      go_wp2
      go_ret2
      rw [hN]
      exact ⟨_, rfl, by omega, HI.out.1, HR.out.bel.trans (HI.out.2.mono (by omega))⟩
end Go.Proofs.Ytlckpgahijlmoaa
/- R02.EulerOf of a valid gluing. -/
namespace Go.Proofs.Ytlckpgahijlmoaa
open Go.RowKit Go.Shelf

/-- the Euler characteristic -/
def eulI (G : Gl) : Int := (cnt (lp (vtF G) id (4 * G.n)) (4 * G.n) : Int) - cnt (lp (erF G) id (4 * G.n)) (6 * G.n) + cnt (lp (trF G) id (4 * G.n)) (4 * G.n) - G.n
theorem cnt_le' (r : Nat → Nat) : ∀ n, cnt r n ≤ n
  | 0 => Nat.le_refl _
  | n + 1 => by
    have := cnt_le' r n
    simp only [cnt]; split <;> omega
set_option maxRecDepth 100000 in
set_option maxHeartbeats 1000000 in
theorem reuler_walk (G : Gl) (hok : checkB G = true) (w : World) (v : Value) (hv : GlAt w.heap.size w v G) :
    Calls Try.prog 17 #[.agg #[v]] w fun e w' => e = .returned (.int .i64 (eulI G)) ∧ Below w.heap.size w w' := by
  have hn : G.n ≤ 1000 := by simp only [checkB, Bool.and_eq_true, decide_eq_true_eq] at hok; exact hok.1
  have HG := Lib.hid (And.intro hv hok)
  obtain ⟨a, cap, rfl⟩ : ∃ a cap, v = .slice a G.n cap := by obtain ⟨a, _, _, cap, e, _⟩ := hv; exact ⟨a, cap, e⟩
  clear hv hok
  have H48 := Lib.hid (fun W (h : Below w.heap.size w W) => vertices_walk G HG.out.2 W _ ((HG.out.1.below h).mono h.size))
  have H49 := Lib.hid (fun W (h : Below w.heap.size w W) => edges_walk G HG.out.2 W _ ((HG.out.1.below h).mono h.size))
  have H50 := Lib.hid (fun W (h : Below w.heap.size w W) => triangles_walk G HG.out.2 W _ ((HG.out.1.below h).mono h.size))
  obtain ⟨cv, hcv⟩ : ∃ c, c = cnt (lp (vtF G) id (4 * G.n)) (4 * G.n) := ⟨_, rfl⟩
  obtain ⟨ce, hce⟩ : ∃ c, c = cnt (lp (erF G) id (4 * G.n)) (6 * G.n) := ⟨_, rfl⟩
  obtain ⟨cf, hcf⟩ : ∃ c, c = cnt (lp (trF G) id (4 * G.n)) (4 * G.n) := ⟨_, rfl⟩
  have b1 := cnt_le' (lp (vtF G) id (4 * G.n)) (4 * G.n)
  have b2 := cnt_le' (lp (erF G) id (4 * G.n)) (6 * G.n)
  have b3 := cnt_le' (lp (trF G) id (4 * G.n)) (4 * G.n)
  rw [← hcv] at H48 b1
  rw [← hce] at H49 b2
  rw [← hcf] at H50 b3
  have hE : eulI G = (cv : Int) - ce + cf - G.n := by rw [eulI, ← hcv, ← hce, ← hcf]
  have HE := Lib.hid hE
  clear hE hcv hce hcf
  go_enter Try.func17, Try.ntmps17
  go_wp2_with fail
  refine (H48.out _ (by (repeat' (first | assumption | exact Below.refl _ _ | refine below_then ?_ (by assumption) | refine below_al ?_ _ | refine below_dr ?_ | refine below_sc ?_ (by simp <;> omega) _)))).mono ?_
  rintro e w1 ⟨d1, rfl, -, -, hb1⟩
  have k1 : Below w.heap.size w w1 ∧ w1.cell? ⟨w.heap.size, 0, none⟩ = some (.slice a G.n cap) := by
    exact ⟨by (repeat' (first | assumption | exact Below.refl _ _ | refine below_then ?_ (by assumption) | refine below_al ?_ _ | refine below_dr ?_ | refine below_sc ?_ (by simp <;> omega) _)), (hb1.cell (p := ⟨w.heap.size, 0, none⟩) (by simp)).trans (World.cell?_alloc_at _ _ _ _ rfl)⟩
  clear hb1
  obtain ⟨hb, c0⟩ := k1
  have HB := Lib.hid hb
  clear hb
  generalize hN : w.heap.size = N at *
  go_wp2_with fail
  refine (H49.out _ HB.out).mono ?_
  rintro e w2 ⟨d2, rfl, -, -, hb2⟩
  have k2 : Below N w w2 ∧ w2.cell? ⟨N, 0, none⟩ = some (.slice a G.n cap) := by
    have := HB.out.size
    exact ⟨HB.out.trans (hb2.mono (by omega)), (hb2.cell (p := ⟨N, 0, none⟩) (lt_of_cell c0)).trans c0⟩
  clear hb2 c0 HB
  obtain ⟨hb, c0⟩ := k2
  have HB := Lib.hid hb
  clear hb
  go_wp2_with fail
  refine (H50.out _ HB.out).mono ?_
  rintro e w3 ⟨d3, rfl, -, -, hb3⟩
  have k3 : Below N w w3 ∧ w3.cell? ⟨N, 0, none⟩ = some (.slice a G.n cap) := by
    have := HB.out.size
    exact ⟨HB.out.trans (hb3.mono (by omega)), (hb3.cell (p := ⟨N, 0, none⟩) (lt_of_cell c0)).trans c0⟩
  clear hb3 c0 HB
  obtain ⟨hb, c0⟩ := k3
  have HB := Lib.hid hb
  clear hb
  have q1 : IntKind.i64.wrap ((cv : Int) - (ce : Int)) = (cv : Int) - ce := IntWalk.i64_in _ (by omega)
  have q2 : IntKind.i64.wrap ((cv : Int) - (ce : Int) + (cf : Int)) = (cv : Int) - ce + cf := IntWalk.i64_in _ (by omega)
  have q3 : IntKind.i64.wrap ((cv : Int) - (ce : Int) + (cf : Int) - (G.n : Int)) = (cv : Int) - ce + cf - G.n := IntWalk.i64_in _ (by omega)
  go_wp2
  go_ret
  exact ⟨by rw [HE.out]; rfl, hN ▸ HB.out⟩
end Go.Proofs.Ytlckpgahijlmoaa
namespace Go.Proofs.Ytlckpgahijlmoaa

/-- copies below s are done, copy s is under way -/
def St (M s : Nat) (fin cur : Nat → Nat) (k : Nat) : Nat := if k / M < s then k / M * M + fin (k % M) else if k / M = s then s * M + cur (k % M) else k
theorem blk {M s x : Nat} (hx : x < M) : (s * M + x) / M = s ∧ (s * M + x) % M = x := by
  have h0 : 0 < M := by omega
  rw [Nat.mul_comm, Nat.mul_add_div h0, Nat.mul_add_mod, Nat.div_eq_of_lt hx, Nat.mod_eq_of_lt hx]; simp
theorem st_in {M s x : Nat} {fin cur : Nat → Nat} (hx : x < M) : St M s fin cur (s * M + x) = s * M + cur x := by
  simp [St, (blk hx).1, (blk hx).2]
theorem st_blk {M s k : Nat} {fin cur : Nat → Nat} (hM : 0 < M) (hf : ∀ x, x < M → fin x < M) (hk : k / M ≠ s) : St M s fin cur k / M ≠ s := by
  unfold St
  split
  · rw [(blk (hf _ (Nat.mod_lt _ hM))).1]; exact hk
  · exact hk
theorem st_join {M s x y : Nat} {fin cur : Nat → Nat} (hx : x < M) (hy : y < M) (hf : ∀ x, x < M → fin x < M) (hc : ∀ x, x < M → cur x < M) : joinR (St M s fin cur) (s * M + x) (s * M + y) = St M s fin (joinR cur x y) := by
  have hM : 0 < M := by omega
  have cx := hc x hx
  have cy := hc y hy
  funext k
  unfold joinR
  rw [st_in hx, st_in hy, show max (s * M + cur x) (s * M + cur y) = s * M + max (cur x) (cur y) by omega, show min (s * M + cur x) (s * M + cur y) = s * M + min (cur x) (cur y) by omega]
  by_cases hk : k / M = s
  · have hkm : k = s * M + k % M := by rw [← hk]; exact (Nat.div_add_mod' k M).symm
    have hlt := Nat.mod_lt k hM
    rw [hkm, st_in hlt, st_in hlt]
    by_cases e : cur (k % M) = max (cur x) (cur y)
    · rw [if_pos (by omega), if_pos e]
    · rw [if_neg (by omega), if_neg e]
  · have h1 := st_blk (cur := cur) hM hf hk
    have h2 : (s * M + max (cur x) (cur y)) / M = s := (blk (by omega)).1
    rw [if_neg (fun e => h1 (by rw [e]; exact h2))]
    unfold St
    split
    · rfl
    · simp only
theorem join_lt {M x y : Nat} {cur : Nat → Nat} (hx : x < M) (hy : y < M) (hc : ∀ x, x < M → cur x < M) : ∀ z, z < M → joinR cur x y z < M := fun z hz => by
  have := hc x hx
  have := hc y hy
  have := hc z hz
  unfold joinR; split <;> omega
theorem st_next (M s : Nat) (fin : Nat → Nat) (_hM : 0 < M) : St M s fin fin = St M (s + 1) fin id := by
  funext k
  unfold St
  by_cases h1 : k / M < s
  · rw [if_pos h1, if_pos (by omega)]
  · by_cases h2 : k / M = s
    · rw [if_neg h1, if_pos h2, if_pos (by omega), h2]
    · rw [if_neg h1, if_neg h2, if_neg (by omega)]
      split
      · rename_i h3; rw [← h3]; simp [Nat.div_add_mod']
      · rfl
theorem st_zero (M : Nat) (fin : Nat → Nat) : St M 0 fin id = id := by
  funext k
  unfold St
  rw [if_neg (Nat.not_lt_zero _)]
  split
  · rename_i h; have := Nat.div_add_mod' k M; rw [h] at this; simpa using this
  · rfl
/-- a loop over the faces of all copies -/
theorem lp_copies {M m sh : Nat} {F' F : Nat → (Nat → Nat) → Nat → Nat} (hM : 0 < M) (hb : ∀ j cur, j < m → (∀ x, x < M → cur x < M) → ∀ x, x < M → F j cur x < M)
    (hF : ∀ s j cur fin, s < sh → j < m → (∀ x, x < M → fin x < M) → (∀ x, x < M → cur x < M) → F' (m * s + j) (St M s fin cur) = St M s fin (F j cur)) :
    lp F' id (m * sh) = St M sh (lp F id m) id := by
  have hbd : ∀ j, j ≤ m → ∀ x, x < M → lp F id j x < M := fun j => by
    induction j with
    | zero => intro _ x hx; exact hx
    | succ j ih => intro hj; exact hb j _ (by omega) (ih (by omega))
  have key : ∀ s, s ≤ sh → lp F' id (m * s) = St M s (lp F id m) id := fun s => by
    induction s with
    | zero => intro _; rw [Nat.mul_zero, st_zero]; rfl
    | succ s ih =>
      intro hs
      have inner : ∀ j, j ≤ m → lp F' id (m * s + j) = St M s (lp F id m) (lp F id j) := fun j => by
        induction j with
        | zero => intro _; exact ih (by omega)
        | succ j ihj =>
          intro hj
          rw [← Nat.add_assoc]
          show F' (m * s + j) (lp F' id (m * s + j)) = _
          rw [ihj (by omega)]
          exact hF s j _ _ (by omega) (by omega) (hbd m (Nat.le_refl _)) (hbd j (by omega))
      rw [Nat.mul_succ, inner m (Nat.le_refl _), st_next M s _ hM]
  exact key sh (Nat.le_refl _)
theorem cnt_copies {M : Nat} {fin : Nat → Nat} (sh : Nat) (hM : 0 < M) (hf : ∀ x, x < M → fin x < M) : ∀ s, s ≤ sh → cnt (St M sh fin id) (M * s) = s * cnt fin M
  | 0, _ => by simp [cnt]
  | s + 1, hs => by
    have inner : ∀ j, j ≤ M → cnt (St M sh fin id) (M * s + j) = s * cnt fin M + cnt fin j := fun j => by
      induction j with
      | zero => intro _; exact cnt_copies sh hM hf s (by omega)
      | succ j ih =>
        intro hj
        rw [← Nat.add_assoc]
        show cnt (St M sh fin id) (M * s + j) + _ = _
        have hst : St M sh fin id (M * s + j) = s * M + fin j := by
          rw [Nat.mul_comm M s]
          unfold St
          rw [(blk (show j < M by omega)).1, (blk (show j < M by omega)).2, if_pos (by omega)]
        rw [ih (by omega), hst, Nat.mul_comm s M]
        show _ = s * cnt fin M + (cnt fin j + _)
        by_cases e : fin j = j
        · rw [if_pos (by omega), if_pos e]; omega
        · rw [if_neg (by omega), if_neg e]; rfl
    rw [Nat.mul_succ, inner M (Nat.le_refl _), Nat.succ_mul]
end Go.Proofs.Ytlckpgahijlmoaa
