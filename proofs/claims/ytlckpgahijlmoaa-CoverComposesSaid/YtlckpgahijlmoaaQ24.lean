/- The parts of a gluing by joining tetrahedra. Plain laws. -/
import Derived.Test.YtlckpgahijlmoaaQ23
import Derived.StillTailTactics
import Derived.Test.YtlckpgahijlmoaaQ17
import Derived.Test.YtlckpgahijlmoaaQ20
/- R02's classes of edges. No condition. -/
namespace Go.Proofs.Ytlckpgahijlmoaa
open Go.RowKit Go.Shelf

/-- one face: the classes of edges -/
def erE (G : Gl) (k e : Nat) (r : Nat → Nat) : Nat → Nat := if pA e = k % 4 ∨ pB e = k % 4 then r else joinR r (6 * (k / 4) + e) (6 * G.T k + edN (G.P k (pA e)) (G.P k (pB e)))
def erF (G : Gl) (k : Nat) (r : Nat → Nat) : Nat → Nat := if G.tet k < 0 then r else lp (erE G k) r 6
theorem erF_ge {G : Gl} {k : Nat} {r : Nat → Nat} (h : ¬ G.tet k < 0) : erF G k r = lp (erE G k) r 6 := if_neg h
theorem erF_lt {G : Gl} {k : Nat} {r : Nat → Nat} (h : G.tet k < 0) : erF G k r = r := if_pos h
theorem erE_ne {G : Gl} {k e : Nat} {r : Nat → Nat} (h1 : pA e ≠ k % 4) (h2 : pB e ≠ k % 4) : erE G k e r = joinR r (6 * (k / 4) + e) (6 * G.T k + edN (G.P k (pA e)) (G.P k (pB e))) := if_neg (by simp [h1, h2])
theorem erE_eq {G : Gl} {k e : Nat} {r : Nat → Nat} (h : pA e = k % 4 ∨ pB e = k % 4) : erE G k e r = r := if_pos h
theorem six_n (n : Nat) : ((6 * n : Nat) : Int) = 6 * (n : Int) := by omega
set_option maxRecDepth 20000 in
set_option maxHeartbeats 1000000 in
theorem edges_walk (G : Gl) (hok : checkB G = true) (w : World) (v : Value) (hv : GlAt w.heap.size w v G) :
    Calls Try.prog 49 #[.agg #[v]] w fun e w' => ∃ d, e = .returned (.tuple #[.slice (some ⟨d, 0, none⟩) (6 * G.n) (6 * G.n), .int .i64 (cnt (lp (erF G) id (4 * G.n)) (6 * G.n) : Nat)]) ∧ w.heap.size ≤ d ∧ IntRow w' d (6 * G.n) (fun i => (cnt (lp (erF G) id (4 * G.n)) (lp (erF G) id (4 * G.n) i) : Nat)) ∧ Below w.heap.size w w' := by
  have hn : G.n ≤ 1000 := by simp only [checkB, Bool.and_eq_true, decide_eq_true_eq] at hok; exact hok.1
  have HO := Lib.hid hok; clear hok
  have HV := Lib.hid hv
  obtain ⟨a, b, off, cap, rfl, ha, hc⟩ := hv
  have HGC := Lib.hid (And.intro ha hc); clear ha hc
  have hs := fun W => singles_walk (6 * G.n) (by omega) W
  rw [six_n] at hs
  have HS := Lib.hid hs; clear hs
  go_enter Try.func49, Try.ntmps49
  go_wp2_with fail
  refine (HS.out _).mono ?_
  rintro e w1 ⟨rfl, hu, hb⟩
  have h1 : FT w w1 w.heap.size G.n a cap (6 * G.n) id := by
    simp only [World.size_alloc] at hu hb
    exact ⟨(hb.cell (p := ⟨w.heap.size, 0, none⟩) (by simp)).trans (World.cell?_alloc_at _ _ _ _ rfl), hu, ((Below.refl _ w).alloc (Nat.le_refl _) _).trans (hb.mono (by omega))⟩
  simp only [World.size_alloc] at *
  have H1 := Lib.hid h1
  have c0 := h1.c0
  clear hb hu h1
  generalize hN : w.heap.size = N at *
  go_wp2
  go_loopw [20] (fun i wr => ∃ t : Nat, t ≤ G.n ∧ i = .int .i64 t ∧ FT w wr N G.n a cap (6 * G.n) (lp (erF G) id (4 * t))) (fun i _ => G.n - (intOf i).toNat)
  case atStart => exact ⟨0, by omega, rfl, H1.out⟩
  case round =>
    clear H1 c0
    obtain ⟨t, ht, rfl, hR⟩ := hrel
    have HR := Lib.hid hR
    rcases Nat.lt_or_ge t G.n with htn | htn
    · obtain ⟨hga, hgc⟩ := HGC.out
      obtain ⟨rfl, hbB⟩ := hga (by omega)
      have hrow := rowCells (W := wr) (b := b) (off := off) (fun k hk => ⟨(hR.bel.cell (p := ⟨b, _, none⟩) (by show b < N; omega)).trans (hgc k hk).1, fun i hi => (hR.bel.cell (p := ⟨b, _, none⟩) (by show b < N; omega)).trans ((hgc k hk).2 i hi)⟩) t htn
      have hrg := hrow.range
      have t0 : 0 ≤ (t : Int) := by omega
      have tn : (t : Int) < (G.n : Int) := by omega
      clear hR hga hgc hrow
      go_wp2_with (first | (refine wpList_load_row' rfl 88 (.tmp 23) rfl b (off + t * 20) rfl (rowA G t) _ hrg Try.underlying88 rfl (by kernel_rfl) ?_) | (refine wpList_store_new (w := wr) rfl 88 (.tmp 6) (.tmp 24) rfl _ (rowA G t) rfl rfl (by kernel_rfl) rfl (rowA_one G t) ?_) | (refine wpList_load_new (w := wr) rfl 88 (.tmp 6) rfl (rowA G t) 4 87 rfl Try.underlying88 (by kernel_rfl) ?_))
      refine wp_named fun W3 hW3 => ?_
      have h3 : FT w W3 N G.n (some ⟨b, off, none⟩) cap (6 * G.n) (lp (erF G) id (4 * t + 0)) := by rw [hW3]; exact HR.out.al _
      have H3 := Lib.hid h3
      clear h3 hW3 HR hrg
      go_loopw [26] (fun i wr => ∃ f : Nat, f ≤ 4 ∧ i = .int .i64 f ∧ FT w wr N G.n (some ⟨b, off, none⟩) cap (6 * G.n) (lp (erF G) id (4 * t + f))) (fun i _ => 4 - (intOf i).toNat)
      case atStart => exact ⟨0, by omega, rfl, H3.out⟩
      case round =>
        clear H3
        obtain ⟨f, hf, rfl, hR⟩ := hrel
        have HR := Lib.hid hR
        clear hR
        rcases Nat.lt_or_ge f 4 with hf4 | hf4
        · have hix := fun w => row_index G t f hf4 w
          unfold faceA at hix
          have hkk : 4 * t + f < 4 * G.n := by omega
          by_cases hneg : G.tet (4 * t + f) < 0
          · have q1 : decide (0 ≤ G.tet (4 * t + f)) = false := by simp; omega
            have HX := Lib.hid hneg
            clear hneg
            generalize hT : G.tet (4 * t + f) = T at *
            have HT := Lib.hid hT; clear hT
            have hE : ∀ j v, (fcells T (G.pm (4 * t + f)))[j]? = some v → (wr.alloc (.cells (fcells T (G.pm (4 * t + f))) 87)).cell? ⟨wr.heap.size, j, none⟩ = some v := fun j v hv => (World.cell?_alloc_at _ _ _ _ rfl).trans hv
            have HE := Lib.hid (hE 0 _ rfl)
            unfold fcells at HE
            clear hE
            go_wp2
            refine wp_named fun W4 hW => ?_
            obtain ⟨E, hEE⟩ : ∃ E, E = wr.heap.size := ⟨_, rfl⟩
            have h4 : FT w W4 N G.n (some ⟨b, off, none⟩) cap (6 * G.n) (lp (erF G) id (4 * t + f)) ∧ W4.cell? ⟨E, 0, none⟩ = some (.int .i64 T) := by
              rw [hW, hEE]; exact ⟨HR.out.al _, HE.out⟩
            rw [← hEE]
            have H4 := Lib.hid h4
            clear h4 hW HE HR hix hEE
            go_loopw [9] (fun i wr => i = .int .i64 0 ∧ FT w wr N G.n (some ⟨b, off, none⟩) cap (6 * G.n) (lp (erF G) id (4 * t + f)) ∧ wr.cell? ⟨E, 0, none⟩ = some (.int .i64 T)) (fun _ _ => 0)
            case atStart => exact ⟨rfl, H4.out⟩
            case round =>
              clear H4
              obtain ⟨rfl, hR, c0⟩ := hrel
              have HR := Lib.hid hR
              clear hR
              go_wp2
              go_roundw
              case rel => exact ⟨f + 1, by omega, rfl, by
                have e : lp (erF G) id (4 * t + (f + 1)) = lp (erF G) id (4 * t + f) := by
                  rw [← Nat.add_assoc, lp_succ]
                  exact erF_lt (by rw [HT.out]; exact HX.out)
                rw [e]; exact HR.out⟩
              case measure => simp [intOf]; omega
          · obtain ⟨e1, e2, e3⟩ := ok_face HO.out hkk hneg
            have q1 : decide (0 ≤ G.tet (4 * t + f)) = true := by simp; omega
            have HX := Lib.hid (And.intro hneg (And.intro e3 (fun i j hi hj hij => ok_inj HO.out hkk hneg i j hi hj hij)))
            rw [e1] at q1 hix
            have hfe := FE.of (q := G.pm (4 * t + f)) (T := (G.T (4 * t + f) : Nat)) HR.out (fun i hi => (e3 i hi).1)
            have HE := Lib.hid hfe
            unfold fcells at HE
            clear hneg hfe e1 e3
            generalize hT : G.T (4 * t + f) = T at *
            have HT := Lib.hid hT; clear hT
            go_wp2
            refine wp_named fun W4 hW => ?_
            obtain ⟨E, hEE⟩ : ∃ E, E = wr.heap.size := ⟨_, rfl⟩
            have h4 : FE w W4 N G.n (some ⟨b, off, none⟩) cap (6 * G.n) E (T : Nat) (G.P (4 * t + f)) (lp (erE G (4 * t + f)) (lp (erF G) id (4 * t + f)) 0) := by
              rw [hW, hEE]; exact HE.out
            rw [← hEE]
            have H4 := Lib.hid h4
            clear h4 hW HE HR hix hEE
            go_loopw [9] (fun i wr => ∃ j : Nat, j ≤ 6 ∧ i = .int .i64 j ∧ FE w wr N G.n (some ⟨b, off, none⟩) cap (6 * G.n) E (T : Nat) (G.P (4 * t + f)) (lp (erE G (4 * t + f)) (lp (erF G) id (4 * t + f)) j)) (fun i _ => 6 - (intOf i).toNat)
            case atStart => exact ⟨0, by omega, rfl, H4.out⟩
            case round =>
              clear H4
              obtain ⟨j, hj, rfl, hR⟩ := hrel
              have c0 := hR.e0
              have HR := Lib.hid hR
              rcases Nat.lt_or_ge j 6 with hj4 | hj4
              · have j6 : (j : Int) < 6 := by omega
                obtain ⟨x, hx⟩ : ∃ x, x = pA j := ⟨_, rfl⟩
                obtain ⟨y, hy⟩ : ∃ y, y = pB j := ⟨_, rfl⟩
                have hE := ends_fact j hj4
                have hrw := fun W => rends_walk j hj4 W
                rw [← hx, ← hy] at hE hrw
                obtain ⟨hxy, hy4, -, -⟩ := hE
                have hx4 : x < 4 := by omega
                have HRW := Lib.hid hrw
                have HXY := Lib.hid (And.intro hx hy)
                have c1 := hR.e1 x hx4
                have c2 := hR.e1 y hy4
                clear hR hrw hx hy
                by_cases exf : x = f
                · have b1 := natbne_false exf
                  have HJ := Lib.hid exf; clear exf c1 c2
                  go_wp2_with (go_at_call 90; (with_reducible refine (HRW.out _).mono ?_); rintro e w5 ⟨rfl, rfl⟩)
                  go_roundw
                  case rel => exact ⟨j + 1, by omega, rfl, by rw [lp_succ, erE_eq (.inl (by rw [← HXY.out.1, HJ.out]; omega))]; exact HR.out⟩
                  case measure => simp [intOf]; omega
                · have b1 := natbne_true exf
                  by_cases eyf : y = f
                  · have b2 := natbne_false eyf
                    have HJ := Lib.hid eyf; clear exf eyf c1 c2
                    go_wp2_with (go_at_call 90; (with_reducible refine (HRW.out _).mono ?_); rintro e w5 ⟨rfl, rfl⟩)
                    go_roundw
                    case rel => exact ⟨j + 1, by omega, rfl, by rw [lp_succ, erE_eq (.inr (by rw [← HXY.out.2, HJ.out]; omega))]; exact HR.out⟩
                    case measure => simp [intOf]; omega
                  · have b2 := natbne_true eyf
                    have d0 : wr.drew.cell? ⟨E, 0, none⟩ = some (.int .i64 ((T : Nat) : Int)) := c0
                    have d1 : wr.drew.cell? ⟨E, 1 + x, none⟩ = some (.int .i64 ((G.P (4 * t + f) x : Nat) : Int)) := c1
                    have d2 : wr.drew.cell? ⟨E, 1 + y, none⟩ = some (.int .i64 ((G.P (4 * t + f) y : Nat) : Int)) := c2
                    have hPi := (HX.out.2.1 x hx4).2
                    have hPj := (HX.out.2.1 y hy4).2
                    have hPne := HX.out.2.2 x y hx4 hy4 (by omega)
                    have hed := (edN_eq (G.P (4 * t + f) x) (G.P (4 * t + f) y) hPi hPj hPne).2
                    have hcl := fun W => redge_walk (G.P (4 * t + f) x) (G.P (4 * t + f) y) hPi hPj hPne W
                    obtain ⟨A, hA⟩ : ∃ A : Nat, A = 6 * t := ⟨_, rfl⟩
                    obtain ⟨I, hI⟩ : ∃ I : Nat, I = 6 * t + j := ⟨_, rfl⟩
                    obtain ⟨C, hC⟩ : ∃ C : Nat, C = 6 * T := ⟨_, rfl⟩
                    obtain ⟨J, hJ⟩ : ∃ J : Nat, J = 6 * T + edN (G.P (4 * t + f) x) (G.P (4 * t + f) y) := ⟨_, rfl⟩
                    have HST := Lib.hid (show lp (erE G (4 * t + f)) (lp (erF G) id (4 * t + f)) (j + 1) = joinR (lp (erE G (4 * t + f)) (lp (erF G) id (4 * t + f)) j) I J by
                      rw [lp_succ, erE_ne (by rw [← HXY.out.1]; omega) (by rw [← HXY.out.2]; omega), show (4 * t + f) / 4 = t by omega, hI, hJ, HT.out, ← HXY.out.1, ← HXY.out.2])
                    have hJn : J < 6 * G.n := by omega
                    have hIn : I < 6 * G.n := by omega
                    generalize hQ : edN (G.P (4 * t + f) x) (G.P (4 * t + f) y) = Q at hed hcl hJ
                    generalize hP : G.P (4 * t + f) x = P at c1 d1 hcl
                    generalize hP' : G.P (4 * t + f) y = P' at c2 d2 hcl
                    have w1 : IntKind.i64.wrap (6 * (t : Int)) = (A : Int) := by rw [IntWalk.i64_in _ (by omega)]; omega
                    have w2 : IntKind.i64.wrap ((A : Int) + (j : Int)) = (I : Int) := by rw [IntWalk.i64_in _ (by omega)]; omega
                    have w3 : IntKind.i64.wrap (6 * (T : Int)) = (C : Int) := by rw [IntWalk.i64_in _ (by omega)]; omega
                    have w4 : IntKind.i64.wrap ((C : Int) + (Q : Int)) = (J : Int) := by rw [IntWalk.i64_in _ (by omega)]; omega
                    have x0 : 0 ≤ (x : Int) := by omega
                    have x4 : (x : Int) < 4 := by omega
                    have y0 : 0 ≤ (y : Int) := by omega
                    have y4 : (y : Int) < 4 := by omega
                    have HCL := Lib.hid hcl
                    clear hP hP' hQ hA hI hC hJ exf eyf hcl hPne hPi hPj hxy
                    go_wp2_with (go_at_call 90; (with_reducible refine (HRW.out _).mono ?_); rintro e w5 ⟨rfl, rfl⟩)
                    refine region_tail 18 (by kernel_rfl) (by kernel_rfl) ?_
                    simp only [List.take_succ_cons, List.take_zero, List.drop_succ_cons, List.drop_zero]
                    repeat (refine wpStill_step (fun K hK => ?_); go_simp; refine hK _ ?_; clear hK K)
                    still_call (HCL.out _)
                    repeat (refine wpStill_step (fun K hK => ?_); go_simp; refine hK _ ?_; clear hK K)
                    refine wpStill_nil ?_
                    clear c0 c1 c2 d0 d1 d2
                    go_wp2_with fail
                    refine (identify_walk _ _ _ I J hIn hJn (by omega) _ HR.out.dr.ft.ur).mono ?_
                    rintro e w2 ⟨rfl, h2, g2⟩
                    have H2 := Lib.hid (HR.out.dr.join h2 g2)
                    clear h2 g2
                    go_wp2
                    go_roundw
                    case rel => exact ⟨j + 1, by omega, rfl, by rw [HST.out]; exact H2.out⟩
                    case measure => simp [intOf]; omega
              · obtain rfl : j = 6 := by omega
                clear hR
                go_wp2
                go_roundw
                case rel => exact ⟨f + 1, by omega, rfl, by
                  have e : lp (erF G) id (4 * t + (f + 1)) = lp (erE G (4 * t + f)) (lp (erF G) id (4 * t + f)) 6 := by
                    rw [← Nat.add_assoc, lp_succ]
                    exact erF_ge (by have := HX.out.1; omega)
                  rw [e]; exact HR.out.ft⟩
                case measure => simp [intOf]; omega
        · obtain rfl : f = 4 := by omega
          go_wp2
          go_roundw
          case rel => exact ⟨t + 1, by omega, rfl, HR.out⟩
          case measure => simp [intOf]; omega
    · obtain rfl : t = G.n := by omega
      clear hR
      go_wp2_with fail
      refine (numbered_walk _ _ _ (by omega) _ HR.out.ur).mono ?_
      rintro e w2 ⟨rfl, hi, hb⟩
      have HI := Lib.hid (And.intro hi hb)
      have hlt := HR.out.lt
      clear hi hb
      go_wp2
      go_ret2
      rw [hN]
      exact ⟨_, rfl, by omega, HI.out.1, HR.out.bel.trans (HI.out.2.mono (by omega))⟩
end Go.Proofs.Ytlckpgahijlmoaa
/- R02.EulerOf of a valid gluing. -/
namespace Go.Proofs.Ytlckpgahijlmoaa
open Go.RowKit Go.Shelf

end Go.Proofs.Ytlckpgahijlmoaa
/- Classes of copies of a gluing: the loops stay inside each copy. Plain laws. -/
namespace Go.Proofs.Ytlckpgahijlmoaa

theorem blk {M s x : Nat} (hx : x < M) : (s * M + x) / M = s ∧ (s * M + x) % M = x := by
  have h0 : 0 < M := by omega
  rw [Nat.mul_comm, Nat.mul_add_div h0, Nat.mul_add_mod, Nat.div_eq_of_lt hx, Nat.mod_eq_of_lt hx]; simp
end Go.Proofs.Ytlckpgahijlmoaa
/- R02's classes of directed edges. No condition. -/
namespace Go.Proofs.Ytlckpgahijlmoaa
open Go.RowKit Go.Shelf

/-- one face: the classes of directed edges -/
def drJ (G : Gl) (k i j : Nat) (r : Nat → Nat) : Nat → Nat := if i = j ∨ i = k % 4 ∨ j = k % 4 then r else joinR r (16 * (k / 4) + 4 * i + j) (16 * G.T k + 4 * G.P k i + G.P k j)
def drI (G : Gl) (k i : Nat) (r : Nat → Nat) : Nat → Nat := lp (drJ G k i) r 4
def drF (G : Gl) (k : Nat) (r : Nat → Nat) : Nat → Nat := if G.tet k < 0 then r else lp (drI G k) r 4
theorem drF_ge {G : Gl} {k : Nat} {r : Nat → Nat} (h : ¬ G.tet k < 0) : drF G k r = lp (drI G k) r 4 := if_neg h
theorem drF_lt {G : Gl} {k : Nat} {r : Nat → Nat} (h : G.tet k < 0) : drF G k r = r := if_pos h
theorem drJ_ne {G : Gl} {k i j : Nat} {r : Nat → Nat} (h1 : i ≠ j) (h2 : i ≠ k % 4) (h3 : j ≠ k % 4) : drJ G k i j r = joinR r (16 * (k / 4) + 4 * i + j) (16 * G.T k + 4 * G.P k i + G.P k j) := if_neg (by simp [h1, h2, h3])
theorem drJ_eq {G : Gl} {k i j : Nat} {r : Nat → Nat} (h : i = j ∨ i = k % 4 ∨ j = k % 4) : drJ G k i j r = r := if_pos h
theorem FT.other {w W W' : World} {N n D : Nat} {a : Option Addr} {cap m : Nat} {r : Nat → Nat} (h : FT w W N n a cap m r) (hg : W.grownBy W' (some D)) (hD : N + 1 < D) : FT w W' N n a cap m r :=
  ⟨hg.cell h.c0 (fun e => by have := Option.some.inj e; simp only at this; omega), h.ur.kept hg (fun e => by have := Option.some.inj e; omega), below_grownBy h.bel hg (by omega) (by have := h.lt; omega)⟩
set_option maxRecDepth 20000 in
set_option maxHeartbeats 2000000 in
theorem directed_walk (G : Gl) (hok : checkB G = true) (w : World) (v : Value) (hv : GlAt w.heap.size w v G) :
    Calls Try.prog 94 #[.agg #[v]] w fun e w' => ∃ d, e = .returned (.slice (some ⟨d, 0, none⟩) (16 * G.n) (16 * G.n)) ∧ w.heap.size ≤ d ∧ IntRow w' d (16 * G.n) (fun i => (lp (drF G) id (4 * G.n) i : Nat)) ∧ Below w.heap.size w w' := by
  have hn : G.n ≤ 1000 := by simp only [checkB, Bool.and_eq_true, decide_eq_true_eq] at hok; exact hok.1
  have HO := Lib.hid hok; clear hok
  have HV := Lib.hid hv
  obtain ⟨a, b, off, cap, rfl, ha, hc⟩ := hv
  have HGC := Lib.hid (And.intro ha hc); clear ha hc
  obtain ⟨M, hM⟩ : ∃ M, M = 16 * G.n := ⟨_, rfl⟩
  have hs := fun W => singles_walk M (by omega) W
  rw [show ((M : Nat) : Int) = 16 * (G.n : Int) by omega] at hs
  have HS := Lib.hid hs
  have hM2 : M ≤ 16000 := by omega
  rw [← hM]
  have HM := Lib.hid hM
  have hmk := run_make_row' (P := Try.prog) 35 3 (.int .i64 0) 8 und35 info3 rfl .i64 .i64 M (by omega) (by omega)
  clear hs hM
  go_enter Try.func94, Try.ntmps94
  go_wp2_with fail
  refine (HS.out _).mono ?_
  rintro e w1 ⟨rfl, hu, hb⟩
  have h1 : FT w w1 w.heap.size G.n a cap M id := by
    simp only [World.size_alloc] at hu hb
    exact ⟨(hb.cell (p := ⟨w.heap.size, 0, none⟩) (by simp)).trans (World.cell?_alloc_at _ _ _ _ rfl), hu, ((Below.refl _ w).alloc (Nat.le_refl _) _).trans (hb.mono (by omega))⟩
  simp only [World.size_alloc] at *
  have H1 := Lib.hid h1
  have c0 := h1.c0
  clear hb hu h1
  generalize hN : w.heap.size = N at *
  go_wp2
  go_loopw [20] (fun i wr => ∃ t : Nat, t ≤ G.n ∧ i = .int .i64 t ∧ FT w wr N G.n a cap M (lp (drF G) id (4 * t))) (fun i _ => G.n - (intOf i).toNat)
  case atStart => exact ⟨0, by omega, rfl, H1.out⟩
  case round =>
    clear H1 c0
    obtain ⟨t, ht, rfl, hR⟩ := hrel
    have HR := Lib.hid hR
    rcases Nat.lt_or_ge t G.n with htn | htn
    · obtain ⟨hga, hgc⟩ := HGC.out
      obtain ⟨rfl, hbB⟩ := hga (by omega)
      have hrow := rowCells (W := wr) (b := b) (off := off) (fun k hk => ⟨(hR.bel.cell (p := ⟨b, _, none⟩) (by show b < N; omega)).trans (hgc k hk).1, fun i hi => (hR.bel.cell (p := ⟨b, _, none⟩) (by show b < N; omega)).trans ((hgc k hk).2 i hi)⟩) t htn
      have hrg := hrow.range
      have t0 : 0 ≤ (t : Int) := by omega
      have tn : (t : Int) < (G.n : Int) := by omega
      clear hR hga hgc hrow hmk
      go_wp2_with (first | (refine wpList_load_row' rfl 88 (.tmp 23) rfl b (off + t * 20) rfl (rowA G t) _ hrg Try.underlying88 rfl (by kernel_rfl) ?_) | (refine wpList_store_new (w := wr) rfl 88 (.tmp 5) (.tmp 24) rfl _ (rowA G t) rfl rfl (by kernel_rfl) rfl (rowA_one G t) ?_) | (refine wpList_load_new (w := wr) rfl 88 (.tmp 5) rfl (rowA G t) 4 87 rfl Try.underlying88 (by kernel_rfl) ?_))
      refine wp_named fun W3 hW3 => ?_
      have h3 : FT w W3 N G.n (some ⟨b, off, none⟩) cap M (lp (drF G) id (4 * t + 0)) := by rw [hW3]; exact HR.out.al _
      have H3 := Lib.hid h3
      clear h3 hW3 HR hrg
      go_loopw [26] (fun i wr => ∃ f : Nat, f ≤ 4 ∧ i = .int .i64 f ∧ FT w wr N G.n (some ⟨b, off, none⟩) cap M (lp (drF G) id (4 * t + f))) (fun i _ => 4 - (intOf i).toNat)
      case atStart => exact ⟨0, by omega, rfl, H3.out⟩
      case round =>
        clear H3
        obtain ⟨f, hf, rfl, hR⟩ := hrel
        have HR := Lib.hid hR
        clear hR
        rcases Nat.lt_or_ge f 4 with hf4 | hf4
        · have hix := fun w => row_index G t f hf4 w
          unfold faceA at hix
          have hkk : 4 * t + f < 4 * G.n := by omega
          by_cases hneg : G.tet (4 * t + f) < 0
          · have q1 : decide (G.tet (4 * t + f) < 0) = true := by simpa using hneg
            have HX := Lib.hid hneg
            clear hneg
            generalize hT : G.tet (4 * t + f) = T at *
            have HT := Lib.hid hT; clear hT
            go_wp2
            go_roundw
            case rel => exact ⟨f + 1, by omega, rfl, by
              have e : lp (drF G) id (4 * t + (f + 1)) = lp (drF G) id (4 * t + f) := by
                rw [← Nat.add_assoc, lp_succ]
                exact drF_lt (by rw [HT.out]; exact HX.out)
              rw [e]; exact HR.out.al _⟩
            case measure => simp [intOf]; omega
          · obtain ⟨e1, e2, e3⟩ := ok_face HO.out hkk hneg
            have q1 : decide (G.tet (4 * t + f) < 0) = false := by simpa using hneg
            have HX := Lib.hid (And.intro hneg e3)
            rw [e1] at q1 hix
            have hfe := FE.of (q := G.pm (4 * t + f)) (T := (G.T (4 * t + f) : Nat)) HR.out (fun i hi => (e3 i hi).1)
            have HE := Lib.hid hfe
            unfold fcells at HE
            clear hneg hfe e1 e3
            generalize hT : G.T (4 * t + f) = T at *
            have HT := Lib.hid hT; clear hT
            go_wp2
            refine wp_named fun W4 hW => ?_
            obtain ⟨E, hEE⟩ : ∃ E, E = wr.heap.size := ⟨_, rfl⟩
            have h4 : FE w W4 N G.n (some ⟨b, off, none⟩) cap M E (T : Nat) (G.P (4 * t + f)) (lp (drI G (4 * t + f)) (lp (drF G) id (4 * t + f)) 0) := by
              rw [hW, hEE]; exact HE.out
            rw [← hEE]
            have H4 := Lib.hid h4
            clear h4 hW HE HR hix hEE
            go_loopw [8] (fun i wr => ∃ j : Nat, j ≤ 4 ∧ i = .int .i64 j ∧ FE w wr N G.n (some ⟨b, off, none⟩) cap M E (T : Nat) (G.P (4 * t + f)) (lp (drI G (4 * t + f)) (lp (drF G) id (4 * t + f)) j)) (fun i _ => 4 - (intOf i).toNat)
            case atStart => exact ⟨0, by omega, rfl, H4.out⟩
            case round =>
              clear H4
              obtain ⟨i, hi, rfl, hR⟩ := hrel
              have HR := Lib.hid hR
              clear hR
              rcases Nat.lt_or_ge i 4 with hi4 | hi4
              · have i0 : 0 ≤ (i : Int) := by omega
                have i4 : (i : Int) < 4 := by omega
                go_wp2
                go_loopw [9] (fun x wr => ∃ j : Nat, j ≤ 4 ∧ x = .int .i64 j ∧ FE w wr N G.n (some ⟨b, off, none⟩) cap M E (T : Nat) (G.P (4 * t + f)) (lp (drJ G (4 * t + f) i) (lp (drI G (4 * t + f)) (lp (drF G) id (4 * t + f)) i) j)) (fun x _ => 4 - (intOf x).toNat)
                case atStart => exact ⟨0, by omega, rfl, HR.out⟩
                case round =>
                  clear HR
                  obtain ⟨j, hj, rfl, hR⟩ := hrel
                  have c0 := hR.e0
                  have HR := Lib.hid hR
                  rcases Nat.lt_or_ge j 4 with hj4 | hj4
                  · have c1 := hR.e1 i hi4
                    have c2 := hR.e1 j hj4
                    clear hR
                    by_cases eij : i = j
                    · have b1 := natbne_false eij
                      have HJ := Lib.hid eij; clear eij c0 c1 c2
                      go_wp2
                      go_roundw
                      case rel => exact ⟨j + 1, by omega, rfl, by rw [lp_succ, drJ_eq (.inl HJ.out)]; exact HR.out⟩
                      case measure => simp [intOf]; omega
                    · have b1 := natbne_true eij
                      by_cases eif : i = f
                      · have b2 := natbne_false eif
                        have HJ := Lib.hid eif; clear eif eij c0 c1 c2
                        go_wp2
                        go_roundw
                        case rel => exact ⟨j + 1, by omega, rfl, by rw [lp_succ, drJ_eq (.inr (.inl (by rw [HJ.out]; omega)))]; exact HR.out⟩
                        case measure => simp [intOf]; omega
                      · have b2 := natbne_true eif
                        by_cases ejf : j = f
                        · have b3 := natbne_false ejf
                          have HJ := Lib.hid ejf; clear eif eij ejf c0 c1 c2
                          go_wp2
                          go_roundw
                          case rel => exact ⟨j + 1, by omega, rfl, by rw [lp_succ, drJ_eq (.inr (.inr (by rw [HJ.out]; omega)))]; exact HR.out⟩
                          case measure => simp [intOf]; omega
                        · have b3 := natbne_true ejf
                          have d0 : wr.drew.cell? ⟨E, 0, none⟩ = some (.int .i64 ((T : Nat) : Int)) := c0
                          have d1 : wr.drew.cell? ⟨E, 1 + i, none⟩ = some (.int .i64 ((G.P (4 * t + f) i : Nat) : Int)) := c1
                          have d2 : wr.drew.cell? ⟨E, 1 + j, none⟩ = some (.int .i64 ((G.P (4 * t + f) j : Nat) : Int)) := c2
                          have hPi := (HX.out.2 i hi4).2
                          have hPj := (HX.out.2 j hj4).2
                          obtain ⟨A, hA⟩ : ∃ A : Nat, A = 16 * t := ⟨_, rfl⟩
                          obtain ⟨B, hB⟩ : ∃ B : Nat, B = 4 * i := ⟨_, rfl⟩
                          obtain ⟨C, hC⟩ : ∃ C : Nat, C = A + B := ⟨_, rfl⟩
                          obtain ⟨I, hI⟩ : ∃ I : Nat, I = 16 * t + 4 * i + j := ⟨_, rfl⟩
                          obtain ⟨A', hA'⟩ : ∃ A : Nat, A = 16 * T := ⟨_, rfl⟩
                          obtain ⟨B', hB'⟩ : ∃ B : Nat, B = 4 * G.P (4 * t + f) i := ⟨_, rfl⟩
                          obtain ⟨C', hC'⟩ : ∃ C : Nat, C = A' + B' := ⟨_, rfl⟩
                          obtain ⟨J, hJ⟩ : ∃ J : Nat, J = 16 * T + 4 * G.P (4 * t + f) i + G.P (4 * t + f) j := ⟨_, rfl⟩
                          have HST := Lib.hid (show lp (drJ G (4 * t + f) i) (lp (drI G (4 * t + f)) (lp (drF G) id (4 * t + f)) i) (j + 1) = joinR (lp (drJ G (4 * t + f) i) (lp (drI G (4 * t + f)) (lp (drF G) id (4 * t + f)) i) j) I J by
                            rw [lp_succ, drJ_ne eij (by omega) (by omega), show (4 * t + f) / 4 = t by omega, hI, hJ, HT.out])
                          have hJn : J < M := by have := HM.out; omega
                          have hIn : I < M := by have := HM.out; omega
                          generalize hP : G.P (4 * t + f) i = P at c1 d1 hPi hB' hJ
                          generalize hQ : G.P (4 * t + f) j = Q at c2 d2 hPj hJ
                          have w1 : IntKind.i64.wrap (16 * (t : Int)) = (A : Int) := by rw [IntWalk.i64_in _ (by omega)]; omega
                          have w2 : IntKind.i64.wrap (4 * (i : Int)) = (B : Int) := by rw [IntWalk.i64_in _ (by omega)]; omega
                          have w3 : IntKind.i64.wrap ((A : Int) + (B : Int)) = (C : Int) := by rw [IntWalk.i64_in _ (by omega)]; omega
                          have w4 : IntKind.i64.wrap ((C : Int) + (j : Int)) = (I : Int) := by rw [IntWalk.i64_in _ (by omega)]; omega
                          have w5 : IntKind.i64.wrap (16 * (T : Int)) = (A' : Int) := by rw [IntWalk.i64_in _ (by omega)]; omega
                          have w6 : IntKind.i64.wrap (4 * (P : Int)) = (B' : Int) := by rw [IntWalk.i64_in _ (by omega)]; omega
                          have w7 : IntKind.i64.wrap ((A' : Int) + (B' : Int)) = (C' : Int) := by rw [IntWalk.i64_in _ (by omega)]; omega
                          have w8 : IntKind.i64.wrap ((C' : Int) + (Q : Int)) = (J : Int) := by rw [IntWalk.i64_in _ (by omega)]; omega
                          have j0 : 0 ≤ (j : Int) := by omega
                          have j4 : (j : Int) < 4 := by omega
                          clear hP hQ hA hB hC hI hA' hB' hC' hJ eij eif ejf
                          go_wp2
                          refine region_tail 22 (by kernel_rfl) (by kernel_rfl) ?_
                          simp only [List.take_succ_cons, List.take_zero, List.drop_succ_cons, List.drop_zero]
                          repeat (refine wpStill_step (fun K hK => ?_); go_simp; refine hK _ ?_; clear hK K)
                          refine wpStill_nil ?_
                          clear c0 c1 c2 d0 d1 d2
                          go_wp2_with fail
                          refine (identify_walk _ _ _ I J hIn hJn (by omega) _ HR.out.dr.ft.ur).mono ?_
                          rintro e w2 ⟨rfl, h2, g2⟩
                          have H2 := Lib.hid (HR.out.dr.join h2 g2)
                          clear h2 g2
                          go_wp2
                          go_roundw
                          case rel => exact ⟨j + 1, by omega, rfl, by rw [HST.out]; exact H2.out⟩
                          case measure => simp [intOf]; omega
                  · obtain rfl : j = 4 := by omega
                    clear hR
                    go_wp2
                    go_roundw
                    case rel => exact ⟨i + 1, by omega, rfl, HR.out⟩
                    case measure => simp [intOf]; omega
              · obtain rfl : i = 4 := by omega
                go_wp2
                go_roundw
                case rel => exact ⟨f + 1, by omega, rfl, by
                  have e : lp (drF G) id (4 * t + (f + 1)) = lp (drI G (4 * t + f)) (lp (drF G) id (4 * t + f)) 4 := by
                    rw [← Nat.add_assoc, lp_succ]
                    exact drF_ge (by have := HX.out.1; omega)
                  rw [e]; exact HR.out.ft⟩
                case measure => simp [intOf]; omega
        · obtain rfl : f = 4 := by omega
          go_wp2
          go_roundw
          case rel => exact ⟨t + 1, by omega, rfl, HR.out⟩
          case measure => simp [intOf]; omega
    · obtain rfl : t = G.n := by omega
      clear hR
      obtain ⟨r, hr⟩ : ∃ r, r = lp (drF G) id (4 * G.n) := ⟨_, rfl⟩
      rw [← hr] at HR
      have HRR := Lib.hid hr
      clear hr
      go_wp2
      refine wp_named fun W5 hW => ?_
      obtain ⟨D, hD⟩ : ∃ D, D = wr.heap.size := ⟨_, rfl⟩
      have h5 : FT w W5 N G.n a cap M r ∧ IntRow W5 D M (fun i => if i < 0 then ((r i : Nat) : Int) else 0) := by
        rw [hW, hD]; exact ⟨HR.out.al _, (World.rowIs_made wr (.int .i64 0) M 3).congr (fun i _ => by simp)⟩
      rw [← hD]
      have hND : N + 1 < D := by have := HR.out.lt; omega
      have H5 := Lib.hid h5
      clear h5 hW HR hD hmk
      go_loopw [84] (fun x wr => ∃ k : Nat, k ≤ M ∧ x = .int .i64 k ∧ FT w wr N G.n a cap M r ∧ IntRow wr D M (fun i => if i < k then ((r i : Nat) : Int) else 0)) (fun x _ => M - (intOf x).toNat)
      case atStart => exact ⟨0, by omega, rfl, H5.out⟩
      case round =>
        clear H5
        obtain ⟨k, hk, rfl, hF, hI⟩ := hrel
        have HF := Lib.hid (And.intro hF hI)
        rcases Nat.lt_or_ge k M with hkn | hkn
        · have hf := hI.frozen k
          have hc := hI.cell hkn
          clear hF hI
          go_wp2_with fail
          refine (rroot_walk _ _ _ k hkn (by omega) _ HF.out.1.ur).mono ?_
          rintro e w2 ⟨rfl, rfl⟩
          generalize hrk : r k = rk
          have HRK := Lib.hid hrk; clear hrk
          have k0 : 0 ≤ (k : Int) := by omega
          have kM : (k : Int) < (M : Int) := by omega
          go_wp2
          go_roundw
          case rel =>
            refine ⟨k + 1, by omega, rfl, HF.out.1.other (grownBy_setCell _ _ _ _) hND, (HF.out.2.set k _).congr (fun i hi => ?_)⟩
            by_cases e : i = k
            · subst e; simp [HRK.out]
            · have : i < k + 1 ↔ i < k := by omega
              simp [e, this]
          case measure => simp [intOf]; omega
        · obtain rfl : k = M := by omega
          clear hF hI
          go_wp2
          go_ret
          rw [hN]
          exact ⟨_, rfl, by omega, HF.out.2.congr (fun i hi => by simp [hi, HRR.out]), HF.out.1.bel⟩
end Go.Proofs.Ytlckpgahijlmoaa
/- The classes of the program and those of the reference are the same: plain laws. No condition. -/
namespace Go.Proofs.Ytlckpgahijlmoaa
open Go.RowKit

theorem lp_hom {α β : Type} {f : Nat → α → α} {g : Nat → β → β} (π : α → β) (h : ∀ i s, π (f i s) = g i (π s)) (s : α) : ∀ n, π (lp f s n) = lp g (π s) n
  | 0 => rfl
  | n + 1 => by rw [lp_succ, lp_succ, h, lp_hom π h s n]
theorem lp_fix {α : Type} {f : Nat → α → α} (s : α) (h : ∀ i, f i s = s) : ∀ n, lp f s n = s
  | 0 => rfl
  | n + 1 => by rw [lp_succ, lp_fix s h n, h]
theorem cls_r1 (G : Gl) : (clsAll G).r1 = lp (vtF G) id (4 * G.n) := by
  refine lp_hom (π := Cls.r1) (fun k s => ?_) cls0 _
  unfold clsF vtF
  split
  · rfl
  · refine (lp_hom (π := Cls.r1) (g := vtI G k) (fun i s => ?_) _ 4)
    unfold clsI vtI
    split
    · rfl
    · refine (lp_hom (π := Cls.r1) (g := fun _ r => r) (fun j s => ?_) _ 4).trans (lp_fix _ (fun _ => rfl) _)
      unfold clsJ
      split <;> rfl
theorem cls_r4 (G : Gl) : (clsAll G).r4 = lp (trF G) id (4 * G.n) := by
  refine lp_hom (π := Cls.r4) (fun k s => ?_) cls0 _
  unfold clsF trF
  split
  · rfl
  · refine (lp_hom (π := Cls.r4) (g := fun _ r => r) (fun i s => ?_) _ 4).trans (lp_fix _ (fun _ => rfl) _)
    unfold clsI
    split
    · rfl
    · refine (lp_hom (π := Cls.r4) (g := fun _ r => r) (fun j s => ?_) _ 4).trans (lp_fix _ (fun _ => rfl) _)
      unfold clsJ
      split <;> rfl
theorem cls_r2 (G : Gl) : (clsAll G).r2 = lp (drF G) id (4 * G.n) := by
  refine lp_hom (π := Cls.r2) (fun k s => ?_) cls0 _
  unfold clsF drF
  split
  · rfl
  · refine (lp_hom (π := Cls.r2) (g := drI G k) (fun i s => ?_) _ 4)
    unfold clsI drI
    by_cases hi : i = k % 4
    · rw [if_pos hi]
      exact (lp_fix _ (fun j => drJ_eq (.inr (.inl hi))) _).symm
    · rw [if_neg hi]
      refine (lp_hom (π := Cls.r2) (g := drJ G k i) (fun j s => ?_) _ 4)
      by_cases hj : j ≠ k % 4 ∧ j ≠ i
      · rw [clsJ_ne hj.1 hj.2, drJ_ne (fun e => hj.2 e.symm) hi hj.1]
      · unfold clsJ
        rw [if_neg hj, drJ_eq]
        by_cases e : j = k % 4
        · exact .inr (.inr e)
        · exact .inl (by
            by_cases e2 : j = i
            · exact e2.symm
            · exact absurd ⟨e, e2⟩ hj)

theorem join_same {r : Nat → Nat} {i j : Nat} (h : r i = r j) : joinR r i j = r := by
  funext k
  unfold joinR
  rw [h, Nat.max_self, Nat.min_self]
  split
  · next e => exact e.symm
  · rfl
theorem join_meets (r : Nat → Nat) (i j : Nat) : joinR r i j i = joinR r i j j := by
  unfold joinR
  rcases Nat.lt_trichotomy (r i) (r j) with h | h | h
  · rw [if_neg (by omega), if_pos (by omega)]; omega
  · rw [h]
  · rw [if_pos (by omega), if_neg (by omega)]; omega
theorem join_keeps {r : Nat → Nat} {i j : Nat} (h : r i = r j) (a b : Nat) : joinR r a b i = joinR r a b j := by
  unfold joinR; rw [h]
/-- each of three pairs joined twice, or once -/
theorem join_six (r : Nat → Nat) (a b c d e f : Nat) : joinR (joinR (joinR (joinR (joinR (joinR r a b) c d) a b) e f) c d) e f = joinR (joinR (joinR r a b) c d) e f := by
  rw [join_same (r := joinR (joinR r a b) c d) (join_keeps (join_meets r a b) c d)]
  rw [join_same (r := joinR (joinR (joinR r a b) c d) e f) (i := c) (j := d) (join_keeps (join_meets _ c d) e f)]
  rw [join_same (join_meets _ e f)]
theorem edN_symm (i j : Nat) : edN i j = edN j i := by
  have hm : ∀ k, mE k (i : Int) (j : Int) = mE k (j : Int) (i : Int) := fun k => by unfold mE; rw [Bool.or_comm]
  unfold edN edgeF
  simp only [hm]
theorem ed_num : edN 0 1 = 0 ∧ edN 0 2 = 1 ∧ edN 0 3 = 2 ∧ edN 1 2 = 3 ∧ edN 1 3 = 4 ∧ edN 2 3 = 5 := by decide
def cJ (G : Gl) (k i j : Nat) (r : Nat → Nat) : Nat → Nat := if j ≠ k % 4 ∧ j ≠ i then joinR r (6 * (k / 4) + edN i j) (6 * G.T k + edN (G.P k i) (G.P k j)) else r
def cI (G : Gl) (k i : Nat) (r : Nat → Nat) : Nat → Nat := if i = k % 4 then r else lp (cJ G k i) r 4
theorem lp4 {α : Type} (f : Nat → α → α) (s : α) : lp f s 4 = f 3 (f 2 (f 1 (f 0 s))) := rfl
theorem lp6 {α : Type} (f : Nat → α → α) (s : α) : lp f s 6 = f 5 (f 4 (f 3 (f 2 (f 1 (f 0 s))))) := rfl
theorem cI_er (G : Gl) (k : Nat) (r : Nat → Nat) : lp (cI G k) r 4 = lp (erE G k) r 6 := by
  obtain ⟨n1, n2, n3, n4, n5, n6⟩ := ed_num
  have s1 : edN 1 0 = 0 := by rw [edN_symm]; exact n1
  have s2 : edN 2 0 = 1 := by rw [edN_symm]; exact n2
  have s3 : edN 3 0 = 2 := by rw [edN_symm]; exact n3
  have s4 : edN 2 1 = 3 := by rw [edN_symm]; exact n4
  have s5 : edN 3 1 = 4 := by rw [edN_symm]; exact n5
  have s6 : edN 3 2 = 5 := by rw [edN_symm]; exact n6
  have t1 := edN_symm (G.P k 1) (G.P k 0)
  have t2 := edN_symm (G.P k 2) (G.P k 0)
  have t3 := edN_symm (G.P k 3) (G.P k 0)
  have t4 := edN_symm (G.P k 2) (G.P k 1)
  have t5 := edN_symm (G.P k 3) (G.P k 1)
  have t6 := edN_symm (G.P k 3) (G.P k 2)
  have hk : k % 4 = 0 ∨ k % 4 = 1 ∨ k % 4 = 2 ∨ k % 4 = 3 := by omega
  rcases hk with hk | hk | hk | hk <;>
    simp [lp4, lp6, cI, cJ, erE, hk, pA, pB, n1, n2, n3, n4, n5, n6, s1, s2, s3, s4, s5, s6, t1, t2, t3, t4, t5, t6, join_six]
theorem cls_r3 (G : Gl) : (clsAll G).r3 = lp (erF G) id (4 * G.n) := by
  refine lp_hom (π := Cls.r3) (fun k s => ?_) cls0 _
  unfold clsF erF
  split
  · rfl
  · refine (lp_hom (π := Cls.r3) (g := cI G k) (fun i s => ?_) _ 4).trans (cI_er G k _)
    unfold clsI cI
    by_cases hi : i = k % 4
    · rw [if_pos hi, if_pos hi]
    · rw [if_neg hi, if_neg hi]
      refine (lp_hom (π := Cls.r3) (g := cJ G k i) (fun j s => ?_) _ 4)
      unfold clsJ cJ
      split <;> rfl
theorem cnt_inj {r : Nat → Nat} {x y : Nat} (hx : r x = x) (hy : r y = y) (h : cnt r x = cnt r y) : x = y := by
  rcases Nat.lt_trichotomy x y with e | e | e
  · have := cnt_mono r (show x + 1 ≤ y by omega)
    simp only [cnt, hx, if_pos] at this; omega
  · exact e
  · have := cnt_mono r (show y + 1 ≤ x by omega)
    simp only [cnt, hy, if_pos] at this; omega
end Go.Proofs.Ytlckpgahijlmoaa
/- The Euler characteristic of copies. Plain laws. -/
namespace Go.Proofs.Ytlckpgahijlmoaa

section
variable {G : Gl} {f g : Nat → Nat → Int} {sh : Nat}
end
end Go.Proofs.Ytlckpgahijlmoaa
namespace Go.Proofs.Ytlckpgahijlmoaa

/-- tetrahedra behind a face are joined -/
def ptF (G : Gl) (k : Nat) (r : Nat → Nat) : Nat → Nat := if G.tet k < 0 then r else joinR r (k / 4) (G.T k)
/-- the first tetrahedron of the part -/
def ptR (G : Gl) : Nat → Nat := lp (ptF G) id (4 * G.n)
theorem ptF_ge {G : Gl} {k : Nat} {r : Nat → Nat} (h : ¬ G.tet k < 0) : ptF G k r = joinR r (k / 4) (G.T k) := if_neg h
theorem ptF_lt {G : Gl} {k : Nat} {r : Nat → Nat} (h : G.tet k < 0) : ptF G k r = r := if_pos h
theorem joinR_same {r : Nat → Nat} {i j x y : Nat} (h : r x = r y) : joinR r i j x = joinR r i j y := by
  unfold joinR; rw [h]
theorem joinR_ij {r : Nat → Nat} {i j : Nat} : joinR r i j i = joinR r i j j := by
  unfold joinR; split <;> split <;> omega
theorem pt_reps {G : Gl} (hok : checkB G = true) : ∀ m, m ≤ 4 * G.n → PR G.n (lp (ptF G) id m)
  | 0, _ => ⟨id, fun _ _ => Nat.le_refl _, fun _ _ => rfl, fun _ _ _ => rfl⟩
  | m + 1, hm => by
    have ih := pt_reps hok m (by omega)
    rw [lp_succ]
    by_cases ht : G.tet m < 0
    · rw [ptF_lt ht]; exact ih
    · rw [ptF_ge ht]
      have := (ok_face hok (show m < 4 * G.n by omega) ht).2.1
      exact ih.join (by omega) this
/-- neighbours have one root -/
theorem pt_face {G : Gl} : ∀ m k, k < m → ¬ G.tet k < 0 → lp (ptF G) id m (k / 4) = lp (ptF G) id m (G.T k)
  | 0, k, h, _ => by omega
  | m + 1, k, h, ht => by
    rw [lp_succ]
    by_cases e : k = m
    · subst e
      rw [ptF_ge ht]; exact joinR_ij
    · have ih := pt_face (G := G) m k (by omega) ht
      by_cases hm : G.tet m < 0
      · rw [ptF_lt hm]; exact ih
      · rw [ptF_ge hm]; exact joinR_same ih
/-- what is closed under faces holds of the root as of the member -/
theorem pt_closed {G : Gl} (hok : checkB G = true) {p : Nat → Prop} (hp : ∀ k, k < 4 * G.n → ¬ G.tet k < 0 → (p (k / 4) ↔ p (G.T k))) : ∀ m, m ≤ 4 * G.n → ∀ x, x < G.n → (p x ↔ p (lp (ptF G) id m x))
  | 0, _, _, _ => Iff.rfl
  | m + 1, hm, x, hx => by
    have ih := pt_closed hok hp m (by omega)
    rw [lp_succ]
    by_cases ht : G.tet m < 0
    · rw [ptF_lt ht]; exact ih x hx
    · rw [ptF_ge ht]
      have hT := (ok_face hok (show m < 4 * G.n by omega) ht).2.1
      have h1 := hp m (by omega) ht
      have h2 := ih (m / 4) (by omega)
      have h3 := ih (G.T m) hT
      have h4 := ih x hx
      unfold joinR
      split
      · rename_i e
        rw [h4, e]
        rcases Nat.le_total (lp (ptF G) id m (m / 4)) (lp (ptF G) id m (G.T m)) with q | q
        · rw [Nat.max_eq_right q, Nat.min_eq_left q, ← h2, ← h3, h1]
        · rw [Nat.max_eq_left q, Nat.min_eq_right q, ← h2, ← h3, h1]
      · exact h4
end Go.Proofs.Ytlckpgahijlmoaa
