/- R11.Made: the gluing of a covering: the walk. -/
import Derived.Test.YtlckpgahijlmoaaQ46
namespace Go.Proofs.Ytlckpgahijlmoaa
open Go.RowKit Go.Shelf

theorem MO.push {WB W w1 : World} {O k : Nat} {H : Gl} {uv uv2 : Value} {ob : Obj} (h : MO WB W O H k uv) (r1 : w1.ownsRow (O + 1) 88 20 uv2 (k + 1) (gpre H k ++ (rowA H k).toList)) (r2 : (W.alloc ob).grownBy w1 uv.ownBlock) : MO WB (w1.setCell ⟨O, 0, none⟩ uv2) O H (k + 1) uv2 := by
  have hl := lt_of_cell h.o
  simp only at hl
  have hne : uv.ownBlock ≠ some O := fun e => by have := own_ge h.own e; omega
  have hne2 : uv2.ownBlock ≠ some O := fun e => by have := own_ge r1 e; omega
  have hO := r2.cell (cell_al h.o _) (fun e => hne e.symm)
  refine ⟨((h.bel.alloc (by omega) _).grown r2 (by simp; omega) (fun k hk => by have := own_ge h.own hk; omega)).setCell (Nat.le_refl O) _, World.cell?_setCell_same _ _ _ hO, ?_, ?_⟩
  · rw [World.frozen?_setCell]
    exact (r2.frozen_far ⟨O, 0, none⟩ (lt_of_cell (cell_al h.o _)) (fun e => hne e.symm)).trans (((World.grownBy_alloc W ob none).frozen_far ⟨O, 0, none⟩ (lt_of_cell h.o) (by simp)).trans h.fo)
  · rw [gpre_succ]
    exact r1.kept (grownBy_setCell w1 O 0 uv2) (.inr hne2)

set_option maxRecDepth 100000 in
set_option maxHeartbeats 8000000 in
theorem rmade_walk {G : Gl} (hok : checkB G = true) (S : Int) (np : Nat) (len : Nat → Nat) (fp : Nat → Nat → Int) (hc : CovOK G S np len fp) (v pv : Value) (w : World) (hG : GlAt w.heap.size w v G) (hp : LLs w.heap.size w pv np len fp) :
    Calls Try.prog 51 #[.agg #[v], .agg #[.int .i64 S, pv]] w fun e w' => ∃ u, e = .returned (.agg #[u]) ∧ GlAt w'.heap.size w' u (covG G fp (fun k => invP (fp k) S.toNat) S.toNat) ∧ Below w.heap.size w w' := by
  have hn := ok_size hok
  obtain ⟨s, rfl⟩ : ∃ s : Nat, S = s := ⟨S.toNat, by have := hc.lo; omega⟩
  obtain ⟨hs24, hsn⟩ := hc.small
  rw [show ((s : Int)).toNat = s from rfl] at hs24 hsn
  have hnum := hc.num
  subst hnum
  have hls : ∀ m, m < nF G → len m = s := fun m hm => by
    have := (permB_range (hc.perms m hm)).1; omega
  have hS : Sh G s fp (fun k => invP (fp k) s) := hc.sh
  have hp' := hp.lens hls
  have HOK := Lib.hid (And.intro hok hS)
  have HG := Lib.hid (And.intro hG hp')
  obtain ⟨H, hH⟩ : ∃ H, H = covG G fp (fun k => invP (fp k) s) s := ⟨_, rfl⟩
  have HH := Lib.hid hH
  obtain ⟨ga, gc, rfl⟩ : ∃ a c, v = .slice a G.n c := by obtain ⟨a, _, _, cap, e, _⟩ := hG; exact ⟨a, cap, e⟩
  obtain ⟨pa, pc, rfl⟩ : ∃ a c, pv = .slice a (nF G) c := by obtain ⟨a, _, _, cap, e, _⟩ := hp; exact ⟨a, cap, e⟩
  clear hG hp hp' hS hls hc hH
  obtain ⟨N, hN⟩ : ∃ N, N = w.heap.size := ⟨_, rfl⟩
  have HN := Lib.hid hN
  go_enter Try.func51, Try.ntmps51
  go_wp2_with fail
  rw [← hN]
  refine wp_world_named fun W0 hW => ?_
  have h0 : Below N w W0 ∧ W0.cell? ⟨N, 0, none⟩ = some (.slice ga G.n gc) ∧ W0.cell? ⟨N + 1, 0, none⟩ = some (.int .i64 (s : Int)) ∧ W0.cell? ⟨N + 1, 1, none⟩ = some (.slice pa (nF G) pc) ∧ W0.cell? ⟨N + 1 + 1, 0, none⟩ = some (.slice none 0 0) ∧ W0.frozen? ⟨N + 1 + 1, 0, none⟩ = false ∧ W0.heap.size = N + 3 := by
    rw [hW, hN]; exact ⟨by (repeat' (first | assumption | exact Below.refl _ _ | refine below_then ?_ (by assumption) | refine below_al ?_ _ | refine below_dr ?_ | refine below_sc ?_ (by simp <;> omega) _)), by simp [go_sem], by simp [go_sem], by simp [go_sem], by simp [go_sem], by simp [go_sem], by simp⟩
  obtain ⟨hb, c0, c1, c2, cr, fr, hz⟩ := h0
  have hbw : Below w.heap.size w W0 := by rw [← hN]; exact hb
  refine (rskeleton_walk G (.slice ga G.n gc) W0 ((HG.out.1.below hbw).mono hbw.size) hok).mono ?_
  rintro e W1 ⟨sv, rfl, hsk, hb1⟩
  obtain ⟨va, vc, ea, ec, ta, b, tc, da, dn, dc, ra, rn, rc, la, ln, lc, rfl, hta, htri⟩ := hsk.skv
  have hsv : SKV W1.heap.size W1 (.agg #[.slice va G.n vc, .slice ea G.n ec, .slice ta G.n tc, .slice da dn dc, .slice ra rn rc, .slice la ln lc]) G := ⟨va, vc, ea, ec, ta, b, tc, da, dn, dc, ra, rn, rc, la, ln, lc, rfl, hta, htri⟩
  have hg1 := below_grown hb1 (Nat.le_refl _) none
  have k0 := hg1.cell c0 (by simp)
  have k1 := hg1.cell c1 (by simp)
  have k2 := hg1.cell c2 (by simp)
  have kr := hg1.cell cr (by simp)
  have kf := (hg1.frozen_far ⟨N + 1 + 1, 0, none⟩ (by show N + 1 + 1 < _; omega) (by simp)).trans fr
  have hbw1 : Below N w W1 := hb.trans (hb1.mono (by omega))
  have hz1 : N + 3 ≤ W1.heap.size := by have := hb1.size; omega
  have H1 := Lib.hid (And.intro hbw1 (And.intro hsv (And.intro k0 (And.intro k1 (And.intro k2 (And.intro kr kf))))))
  clear hW hN hb hb1 c0 c1 c2 cr fr hz hbw hok hsk hta htri hsv hg1 k0 k1 k2 kr kf hbw1
  go_wp2
  obtain ⟨D, hD⟩ : ∃ D, D = W1.heap.size := ⟨_, rfl⟩
  rw [← hD]
  obtain ⟨WB, hWB⟩ : ∃ WB, WB = W1.alloc (Obj.cells #[.slice va G.n vc, .slice ea G.n ec, .slice ta G.n tc, .slice da dn dc, .slice ra rn rc, .slice la ln lc] 54) := ⟨_, rfl⟩
  rw [← hWB]
  refine wp_named fun W2 hW => ?_
  have h2 : ISB w WB N D G ga gc s pa pc va vc ea ec ta tc da dn dc ra rn rc la ln lc fp ∧ WB.heap.size = D + 1 ∧ WB.cell? ⟨N + 1 + 1, 0, none⟩ = some (.slice none 0 0) ∧ WB.frozen? ⟨N + 1 + 1, 0, none⟩ = false := by
    have hb2 : Below W1.heap.size W1 WB := by rw [hWB]; exact (Below.refl _ _).alloc (Nat.le_refl _) _
    have hbN2 : Below N w WB := H1.out.1.trans (hb2.mono (by omega))
    have hbW2 : Below w.heap.size w WB := by rw [← HN.out]; exact hbN2
    have hgr := below_grown hb2 (Nat.le_refl _) none
    have hsz : WB.heap.size = D + 1 := by rw [hWB, hD]; simp
    refine ⟨⟨hbN2, hgr.cell H1.out.2.2.1 (by simp), hgr.cell H1.out.2.2.2.1 (by simp), hgr.cell H1.out.2.2.2.2.1 (by simp), by rw [hWB, hD]; simp [go_sem], by rw [hWB, hD]; simp [go_sem], by rw [hWB, hD]; simp [go_sem], by rw [hWB, hD]; simp [go_sem], by rw [hWB, hD]; simp [go_sem], by rw [hWB, hD]; simp [go_sem], (HG.out.1.below hbW2).mono hbW2.size, (H1.out.2.1.below hb2).mono hb2.size, (HG.out.2.below hbW2).mono hbW2.size, by omega⟩, hsz, hgr.cell H1.out.2.2.2.2.2.1 (by simp), (hgr.frozen_far ⟨N + 1 + 1, 0, none⟩ (by show N + 1 + 1 < _; omega) (by simp)).trans H1.out.2.2.2.2.2.2⟩
  have h3 : MO WB W2 (D + 1) H 0 (.slice none 0 0) := by
    have hal := World.grownBy_alloc WB (.cells #[.slice none 0 0] 24) none
    rw [hW]
    exact ⟨(Below.refl _ _).alloc (by rw [h2.2.1]; exact Nat.le_refl _) _, World.cell?_alloc_at _ _ _ _ h2.2.1.symm, World.frozen?_alloc_at _ _ _ _ h2.2.1.symm, World.ownsRow_nil _ _ _ _⟩
  have H2 := Lib.hid h2
  have H3 := Lib.hid h3
  have hND : N + 3 ≤ D := by omega
  clear hW hWB hD h2 h3 H1 hz1
  go_loopw [7] (fun i wr => ∃ (q : Nat) (uv : Value), q ≤ s ∧ i = .int .i64 q ∧ MO WB wr (D + 1) H (q * G.n) uv) (fun i _ => s - (intOf i).toNat)
  case atStart => exact ⟨0, _, by omega, rfl, by rw [Nat.zero_mul]; exact H3.out⟩
  case round =>
    clear H3
    obtain ⟨q, uv, hq, rfl, hM⟩ := hrel
    have HK := Lib.hid hM
    have hI := H2.out.1.below (show Below WB.heap.size WB wr by rw [H2.out.2.1]; exact hM.bel)
    have x0 := hI.c0
    have x1 := hI.c1
    rcases Nat.lt_or_ge q s with hqs | hqs
    · clear hM hI
      go_wp2
      go_loopw [24] (fun i wr => ∃ (t : Nat) (uv : Value), t ≤ G.n ∧ i = .int .i64 t ∧ MO WB wr (D + 1) H (q * G.n + t) uv) (fun i _ => G.n - (intOf i).toNat)
      case atStart => exact ⟨0, _, by omega, rfl, HK.out⟩
      case round =>
        clear HK x0 x1
        obtain ⟨t, uv, ht, rfl, hM⟩ := hrel
        have HK := Lib.hid hM
        have hI := H2.out.1.below (show Below WB.heap.size WB wr by rw [H2.out.2.1]; exact hM.bel)
        rcases Nat.lt_or_ge t G.n with htn | htn
        · have hrow : ∃ b off, ga = some ⟨b, off, none⟩ ∧ RowCells wr b (off + t * 20) G t := by
            obtain ⟨a, b, off, cap, heq, hga, hgc⟩ := hI.g
            obtain ⟨rfl, hbB⟩ := hga (by omega)
            injection heq with h1
            exact ⟨b, off, h1, rowCells hgc t htn⟩
          obtain ⟨b, off, rfl, hrow⟩ := hrow
          have hrg := hrow.range
          have t0 : 0 ≤ (t : Int) := by omega
          have tn : (t : Int) < (G.n : Int) := by omega
          have x0 := hI.c0
          have hrg2 : ∀ ob, ((wr.alloc (.cells (rowA G t) 88)).alloc ob).rangeAt wr.heap.size 0 (rowA G t).toList := fun ob => by
            have : RowCells (wr.alloc (.cells (rowA G t) 88)) wr.heap.size 0 G t := fun j hj => by rw [Nat.zero_add]; exact World.cell?_alloc_at _ _ _ _ rfl
            exact (this.alloc ob).range
          have HR := Lib.hid hrow
          clear hM hI hrow
          go_wp2_with (first | (refine wpList_load_row' rfl 88 (.tmp 27) rfl b (off + t * 20) rfl (rowA G t) _ hrg Try.underlying88 rfl (by kernel_rfl) ?_) | (refine wpList_store_new (w := wr) rfl 88 (.tmp 9) (.tmp 28) rfl _ (rowA G t) rfl rfl (by kernel_rfl) rfl (rowA_one G t) ?_) | (refine wpList_load_row' rfl 88 (.tmp 9) rfl wr.heap.size 0 rfl (rowA G t) _ (hrg2 _) Try.underlying88 rfl (by kernel_rfl) ?_))
          obtain ⟨K, hK⟩ : ∃ K, K = q * G.n + t := ⟨_, rfl⟩
          have hKs : K < s * G.n := by
            have : (q + 1) * G.n ≤ s * G.n := Nat.mul_le_mul_right _ hqs
            rw [Nat.succ_mul] at this; omega
          obtain ⟨X, hX⟩ : ∃ X, X = wr.heap.size := ⟨_, rfl⟩
          obtain ⟨R, hR⟩ : ∃ R, R = X + 1 := ⟨_, rfl⟩
          rw [← hX, ← hR]
          refine wp_named fun W3 hW3 => ?_
          have h3 : TM WB W3 (D + 1) R K 0 H uv := by
            have hlo := lt_of_cell HK.out.o
            simp only at hlo
            rw [hW3, hK]
            have g1 := World.grownBy_alloc wr (.cells (rowA G t) 88) none
            have g2 := World.grownBy_alloc (wr.alloc (.cells (rowA G t) 88)) (.cells #[.int .i64 0, .int .i64 0, .int .i64 0, .int .i64 0, .int .i64 0, .int .i64 0, .int .i64 0, .int .i64 0, .int .i64 0, .int .i64 0, .int .i64 0, .int .i64 0, .int .i64 0, .int .i64 0, .int .i64 0, .int .i64 0, .int .i64 0, .int .i64 0, .int .i64 0, .int .i64 0] 88) none
            have hz : R = (wr.alloc (.cells (rowA G t) 88)).heap.size := by simp [hR, hX]
            refine ⟨(HK.out.kept g1).kept g2, fun j hj => ?_, fun j => World.frozen?_alloc_at _ _ _ _ hz, by omega, fun e => by have := own_lt_size HK.out.own e; omega⟩
            rw [Nat.zero_add, World.cell?_alloc_at _ _ _ _ hz]
            rfl
          have HKK := Lib.hid hK
          have H3 := Lib.hid h3
          clear hW3 h3 HK hX hR hrg hrg2 x0 hK
          go_loopw [30] (fun i wr => ∃ f : Nat, f ≤ 4 ∧ i = .int .i64 f ∧ TM WB wr (D + 1) R K f H uv) (fun i _ => 4 - (intOf i).toNat)
          case atStart => exact ⟨0, by omega, rfl, H3.out⟩
          case round =>
            clear H3
            obtain ⟨f, hf, rfl, hM⟩ := hrel
            have HM := Lib.hid hM
            rcases Nat.lt_or_ge f 4 with hf4 | hf4
            · have hix := fun w => row_index G t f hf4 w
              unfold faceA at hix
              have f0 : 0 ≤ (f : Int) := by omega
              have f4 : (f : Int) < 4 := by omega
              have hcov := covG_at G fp (fun k => invP (fp k) s) s q t f htn hf4
              rw [← HKK.out, ← HH.out] at hcov
              have HC := Lib.hid hcov
              obtain ⟨E, hE⟩ : ∃ E, E = wr.heap.size := ⟨_, rfl⟩
              have hRl : R < wr.heap.size := by
                have h1 := hM.row 0 (by omega)
                have h2 : (rowA (zG H K f) 0).size = 20 := rfl
                rw [Array.getElem?_eq_getElem (by omega)] at h1
                exact lt_of_cell h1
              clear hM hcov
              iterate 34 go_step
              (first | refine wp_named fun W4 hW4 => ?_ | (go_step; refine wp_named fun W4 hW4 => ?_) | (go_step; go_step; refine wp_named fun W4 hW4 => ?_))
              rw [← hE]
              have hE0 : W4.cell? ⟨E, 0, none⟩ = some (.int .i64 (G.tet (4 * t + f))) ∧ W4.cell? ⟨E, 1, none⟩ = some (.int .i64 (G.pm (4 * t + f) 0)) ∧ W4.cell? ⟨E, 2, none⟩ = some (.int .i64 (G.pm (4 * t + f) 1)) ∧ W4.cell? ⟨E, 3, none⟩ = some (.int .i64 (G.pm (4 * t + f) 2)) ∧ W4.cell? ⟨E, 4, none⟩ = some (.int .i64 (G.pm (4 * t + f) 3)) := by
                rw [hW4]; exact ⟨World.cell?_alloc_at _ _ _ _ hE, World.cell?_alloc_at _ _ _ _ hE, World.cell?_alloc_at _ _ _ _ hE, World.cell?_alloc_at _ _ _ _ hE, World.cell?_alloc_at _ _ _ _ hE⟩
              have hT4 : TM WB W4 (D + 1) R K f H uv := by rw [hW4]; exact HM.out.kept (World.grownBy_alloc _ _ _)
              obtain ⟨e0, e1, e2, e3, e4⟩ := hE0
              have H4 := Lib.hid hT4
              have old : ∀ i, i < 5 → W4.cell? ⟨R, f * 5 + i, none⟩ = some (.int .i64 0) := fun i hi => by
                have := hT4.row (f * 5 + i) (by omega)
                rw [Nat.zero_add] at this
                rw [this, zG_blank H K f hf4 i hi]
              have o0 := old 0 (by omega)
              have o1 := old 1 (by omega)
              have o2 := old 2 (by omega)
              have o3 := old 3 (by omega)
              have o4 := old 4 (by omega)
              rw [Nat.add_zero] at o0
              have hfr := hT4.fr
              have hER : R < E := by omega
              have HE := Lib.hid (And.intro hER e0)
              clear hW4 hT4 old HM hE hRl hER
              iterate 14 go_step
              (first | refine wp_named fun W5 hW5 => ?_ | (go_step; refine wp_named fun W5 hW5 => ?_) | (go_step; go_step; refine wp_named fun W5 hW5 => ?_) | (go_step; go_step; go_step; refine wp_named fun W5 hW5 => ?_))
              have h5 : MO WB W5 (D + 1) H K uv ∧ (∀ j, j < 20 → W5.cell? ⟨R, j, none⟩ = if j = f * 5 then some (.int .i64 (G.tet (4 * t + f))) else (rowA (zG H K (f + 1)) 0)[j]?) ∧ (∀ j, W5.frozen? ⟨R, j, none⟩ = false) ∧ W5.cell? ⟨E, 0, none⟩ = some (.int .i64 (G.tet (4 * t + f))) := by
                have hx := H4.out.face hf4 (G.tet (4 * t + f))
                rw [HC.out.2, ← hW5] at hx
                refine ⟨hx.1, hx.2.1, hx.2.2, ?_⟩
                rw [hW5]
                have oth : ∀ (V : World) (o : Nat) (y : Value), (V.setCell ⟨R, o, none⟩ y).cell? ⟨E, 0, none⟩ = V.cell? ⟨E, 0, none⟩ := fun V o y => World.cell?_setCell_other (a := ⟨R, o, none⟩) (b := ⟨E, 0, none⟩) _ _ (by rintro ⟨⟩; have := HE.out.1; omega)
                rw [oth, oth, oth, oth, oth]; exact HE.out.2
              obtain ⟨hm5, hr5, hf5, he5⟩ := h5
              have H5 := Lib.hid (And.intro hm5 (And.intro hr5 hf5))
              have hlR := HE.out.1
              have hRO := H4.out.lt
              have hRne := H4.out.ne
              clear hW5 o0 o1 o2 o3 o4 e0 e1 e2 e3 e4 hfr H4 HE
              by_cases hneg : G.tet (4 * t + f) < 0
              · have HX := Lib.hid (show H.tet (4 * K + f) = G.tet (4 * t + f) by rw [HC.out.1, if_pos hneg])
                clear hm5 hr5 hf5 hix
                generalize hT : G.tet (4 * t + f) = T at *
                clear hT
                go_wp2
                go_roundw
                case rel =>
                  refine ⟨f + 1, by omega, rfl, H5.out.1, fun j hj => ?_, H5.out.2.2, hRO, hRne⟩
                  rw [Nat.zero_add, H5.out.2.1 j hj]
                  by_cases hj0 : j = f * 5
                  · rw [if_pos hj0, zG_cell H K f hf4 j hj, if_pos hj0, HX.out]
                  · rw [if_neg hj0]
                case measure => simp [intOf]; omega
              · have hif : InSh (nF G) s fp := fun k hk i hi => by obtain ⟨j, h1, h2⟩ := HOK.out.2.fr k i hk hi; omega
                have hig : InSh (nF G) s (fun k => invP (fp k) s) := fun k hk i hi => by
                  obtain ⟨j, h1, h2⟩ := HOK.out.2.gr k i hk hi
                  have h3 : invP (fp k) s i = j := h1
                  show 0 ≤ invP (fp k) s i ∧ invP (fp k) s i < s
                  omega
                obtain ⟨hc1, hc2⟩ := crF_lt HOK.out.1 hif hig htn hf4 hqs
                obtain ⟨σ, hσ⟩ : ∃ σ, σ = (crF G fp (fun k => invP (fp k) s) t f q).toNat := ⟨_, rfl⟩
                rw [← hσ] at hc1 hc2
                obtain ⟨tl, tl2, _⟩ := ok_face HOK.out.1 (show 4 * t + f < 4 * G.n by omega) hneg
                obtain ⟨T, hT, hTn⟩ : ∃ T : Nat, G.tet (4 * t + f) = T ∧ T < G.n := ⟨_, tl, tl2⟩
                have hpn : σ * G.n ≤ s * G.n := Nat.mul_le_mul_right _ (by omega)
                have HX := Lib.hid (show H.tet (4 * K + f) = ((σ * G.n + T : Nat) : Int) by rw [HC.out.1, if_neg hneg, hc1, hT]; push_cast; rfl)
                obtain ⟨PP, hPP⟩ : ∃ PP : Nat, PP = σ * G.n := ⟨_, rfl⟩
                obtain ⟨RR, hRR⟩ : ∃ RR : Nat, RR = PP + T := ⟨_, rfl⟩
                rw [← hPP, ← hRR] at HX
                have q1 : IntKind.i64.wrap ((σ : Int) * (G.n : Int)) = (PP : Int) := by rw [hPP]; rw [IntWalk.i64_in _ (by push_cast at *; omega)]; push_cast; rfl
                have q2 : IntKind.i64.wrap ((PP : Int) + (T : Int)) = (RR : Int) := by rw [IntWalk.i64_in _ (by omega)]; omega
                have T0 : 0 ≤ (T : Int) := by omega
                rw [hT] at he5 hr5
                have hTi := Lib.hid hT
                have hI := H2.out.1.below (show Below WB.heap.size WB W5.drew by rw [H2.out.2.1]; exact below_dr hm5.bel)
                obtain ⟨⟨V, hV⟩⟩ : Nonempty (∃ V, V = W5.drew) := ⟨_, rfl⟩
                rw [hT]
                have call : ∀ W, Below V.heap.size V W → Calls Try.prog 55 #[.agg #[.slice (some ⟨b, off, none⟩) G.n gc], .agg #[.slice va G.n vc, .slice ea G.n ec, .slice ta G.n tc, .slice da dn dc, .slice ra rn rc, .slice la ln lc], .agg #[.int .i64 (s : Int), .slice pa (nF G) pc], .int .i64 (t : Int), .int .i64 (f : Int), .int .i64 (q : Int)] W fun e w' => e = .returned (.int .i64 (σ : Int)) ∧ Below W.heap.size W w' := fun W h => by
                  rw [hV] at h
                  have h9 := hI.below h
                  have := rcross_walk HOK.out.1 HOK.out.2 (by omega) t f q htn hf4 hqs _ _ _ W h9.g h9.sk h9.p s
                  rw [hc1] at this
                  exact this
                have c0 := hI.c0
                have c1 := hI.c1
                have c2 := hI.c2
                have d0 := hI.d0
                have d1 := hI.d1
                have d2 := hI.d2
                have d3 := hI.d3
                have d4 := hI.d4
                have d5 := hI.d5
                have m0 : 0 ≤ (f : Int) := by omega
                have hrc : ∀ j, j < 20 → ∃ v, W5.drew.cell? ⟨R, j, none⟩ = some v := fun j hj => by
                  have h1 := hr5 j hj
                  have h2 : (rowA (zG H K (f + 1)) 0).size = 20 := rfl
                  rw [Array.getElem?_eq_getElem (by omega)] at h1
                  refine ⟨if j = f * 5 then .int .i64 T else (rowA (zG H K (f + 1)) 0)[j], ?_⟩
                  show W5.cell? _ = _
                  rw [h1]; split <;> rfl
                rw [← hV] at c0 c1 c2 d0 d1 d2 d3 d4 d5 hrc
                have he5d : V.cell? ⟨E, 0, none⟩ = some (.int .i64 T) := by rw [hV]; exact he5
                have hfV : ∀ j, V.frozen? ⟨R, j, none⟩ = false := fun j => by rw [hV]; exact hf5 j
                have hRl : R < V.heap.size := by
                  obtain ⟨v, hv⟩ := hrc 0 (by omega)
                  exact lt_of_cell hv
                have HV := Lib.hid (And.intro hrc (And.intro hfV hRl))
                have HL := Lib.hid (call V (Below.refl _ _))
                have HVd := Lib.hid hV
                clear call hrc hfV hRl hI hm5 hr5 hf5 hix hT hc1 hif hig hpn hPP hRR hσ hneg hV tl tl2
                go_wp2
                have hV := HVd.out
                clear HVd
                subst hV
                have lc0 := lt_of_cell c0
                have lc1 := lt_of_cell c1
                have lc2 := lt_of_cell c2
                have ld0 := lt_of_cell d0
                have ld1 := lt_of_cell d1
                have ld2 := lt_of_cell d2
                have ld3 := lt_of_cell d3
                have ld4 := lt_of_cell d4
                have ld5 := lt_of_cell d5
                have lhe5d := lt_of_cell he5d
                simp only at lc0 lc1 lc2 ld0 ld1 ld2 ld3 ld4 ld5 lhe5d
                go_region_held3 (fun w' => w'.cell? ⟨N, 0, none⟩ = some (.slice (some ⟨b, off, none⟩) G.n gc) ∧ w'.cell? ⟨N + 1, 0, none⟩ = some (.int .i64 (s : Int)) ∧ w'.cell? ⟨N + 1, 1, none⟩ = some (.slice pa (nF G) pc) ∧ w'.cell? ⟨D, 0, none⟩ = some (.slice va G.n vc) ∧ w'.cell? ⟨D, 1, none⟩ = some (.slice ea G.n ec) ∧ w'.cell? ⟨D, 2, none⟩ = some (.slice ta G.n tc) ∧ w'.cell? ⟨D, 3, none⟩ = some (.slice da dn dc) ∧ w'.cell? ⟨D, 4, none⟩ = some (.slice ra rn rc) ∧ w'.cell? ⟨D, 5, none⟩ = some (.slice la ln lc) ∧ w'.cell? ⟨E, 0, none⟩ = some (.int .i64 T))
                  (first | exact ⟨c0, c1, c2, d0, d1, d2, d3, d4, d5, he5d⟩ | exact ⟨(HB1.out.cell (p := ⟨N, 0, none⟩) (by exact lc0)).trans c0, (HB1.out.cell (p := ⟨N + 1, 0, none⟩) (by exact lc1)).trans c1, (HB1.out.cell (p := ⟨N + 1, 1, none⟩) (by exact lc2)).trans c2, (HB1.out.cell (p := ⟨D, 0, none⟩) (by exact ld0)).trans d0, (HB1.out.cell (p := ⟨D, 1, none⟩) (by exact ld1)).trans d1, (HB1.out.cell (p := ⟨D, 2, none⟩) (by exact ld2)).trans d2, (HB1.out.cell (p := ⟨D, 3, none⟩) (by exact ld3)).trans d3, (HB1.out.cell (p := ⟨D, 4, none⟩) (by exact ld4)).trans d4, (HB1.out.cell (p := ⟨D, 5, none⟩) (by exact ld5)).trans d5, (HB1.out.cell (p := ⟨E, 0, none⟩) (by exact lhe5d)).trans he5d⟩ | exact ⟨(World.cell?_setCell_other (a := ⟨R, f * 5, none⟩) (b := ⟨N, 0, none⟩) _ _ (by simp <;> omega)).trans ((HB1.out.cell (p := ⟨N, 0, none⟩) (by exact lc0)).trans c0), (World.cell?_setCell_other (a := ⟨R, f * 5, none⟩) (b := ⟨N + 1, 0, none⟩) _ _ (by simp <;> omega)).trans ((HB1.out.cell (p := ⟨N + 1, 0, none⟩) (by exact lc1)).trans c1), (World.cell?_setCell_other (a := ⟨R, f * 5, none⟩) (b := ⟨N + 1, 1, none⟩) _ _ (by simp <;> omega)).trans ((HB1.out.cell (p := ⟨N + 1, 1, none⟩) (by exact lc2)).trans c2), (World.cell?_setCell_other (a := ⟨R, f * 5, none⟩) (b := ⟨D, 0, none⟩) _ _ (by simp <;> omega)).trans ((HB1.out.cell (p := ⟨D, 0, none⟩) (by exact ld0)).trans d0), (World.cell?_setCell_other (a := ⟨R, f * 5, none⟩) (b := ⟨D, 1, none⟩) _ _ (by simp <;> omega)).trans ((HB1.out.cell (p := ⟨D, 1, none⟩) (by exact ld1)).trans d1), (World.cell?_setCell_other (a := ⟨R, f * 5, none⟩) (b := ⟨D, 2, none⟩) _ _ (by simp <;> omega)).trans ((HB1.out.cell (p := ⟨D, 2, none⟩) (by exact ld2)).trans d2), (World.cell?_setCell_other (a := ⟨R, f * 5, none⟩) (b := ⟨D, 3, none⟩) _ _ (by simp <;> omega)).trans ((HB1.out.cell (p := ⟨D, 3, none⟩) (by exact ld3)).trans d3), (World.cell?_setCell_other (a := ⟨R, f * 5, none⟩) (b := ⟨D, 4, none⟩) _ _ (by simp <;> omega)).trans ((HB1.out.cell (p := ⟨D, 4, none⟩) (by exact ld4)).trans d4), (World.cell?_setCell_other (a := ⟨R, f * 5, none⟩) (b := ⟨D, 5, none⟩) _ _ (by simp <;> omega)).trans ((HB1.out.cell (p := ⟨D, 5, none⟩) (by exact ld5)).trans d5), (World.cell?_setCell_other (a := ⟨R, f * 5, none⟩) (b := ⟨E, 0, none⟩) _ _ (by simp <;> omega)).trans ((HB1.out.cell (p := ⟨E, 0, none⟩) (by exact lhe5d)).trans he5d)⟩)
                  (first | (go_at_call 55; (with_reducible refine HL.out.mono ?_); rintro e w1 ⟨rfl, hb⟩; obtain ⟨v0, hv0'⟩ := HV.out.1 (f * 5) (by omega); have hv0 := (hb.cell (p := ⟨R, f * 5, none⟩) (by exact HV.out.2.2)).trans hv0'; have fv0 := ((below_grown hb (Nat.le_refl _) none).frozen_far ⟨R, f * 5, none⟩ HV.out.2.2 (by simp)).trans (HV.out.2.1 (f * 5)); have HB1 := Lib.hid hb; clear hb hv0'))
                clear c0 c1 c2 d0 d1 d2 d3 d4 d5 he5d he5 lc0 lc1 lc2 ld0 ld1 ld2 ld3 ld4 ld5
                go_wp2
                go_roundw
                case rel =>
                  have hg1 := below_grown HB1.out (Nat.le_refl _) none
                  have hgs := grownBy_setCell w1 R (f * 5) (.int .i64 (RR : Int))
                  refine ⟨f + 1, by omega, rfl, (H5.out.1.kept (grownBy_trans (grownBy_drew _ none) hg1)).row hRO hRne hgs, fun j hj => ?_, fun j => ?_, hRO, hRne⟩
                  · rw [Nat.zero_add, zG_cell H K f hf4 j hj]
                    by_cases hj0 : j = f * 5
                    · rw [if_pos hj0, hj0, World.cell?_setCell_same _ _ _ hv0, HX.out]
                    · have hc9 := H5.out.2.1 j hj
                      rw [if_neg hj0, zG_cell H K f hf4 j hj] at hc9
                      rw [World.cell?_setCell_other (a := ⟨R, f * 5, none⟩) (b := ⟨R, j, none⟩) _ _ (by rintro ⟨⟩; exact hj0 rfl)]
                      exact (HB1.out.cell (p := ⟨R, j, none⟩) (by exact HV.out.2.2)).trans hc9
                  · rw [World.frozen?_setCell]
                    exact (hg1.frozen_far ⟨R, j, none⟩ HV.out.2.2 (by simp)).trans (HV.out.2.1 j)
                case measure => simp [intOf]; omega
            · obtain rfl : f = 4 := by omega
              clear hf hf4 hM
              obtain ⟨ua, up, rfl⟩ := ownsRow_form HM.out.mo.own
              have y4 := HM.out.mo.o
              have f4 := HM.out.mo.fo
              have hrow : RowCells wr R 0 H K := fun j hj => by rw [HM.out.row j hj, zG_all]
              have hrg2 := RowCells.range hrow
              have hkb : K + 1 ≤ 1000 := by omega
              have hDs := lt_of_cell y4
              simp only at hDs
              have ownA := HM.out.mo.own.alloc (.cells (rowA H K) 88)
              have newsA : ∀ (j : Nat) (u : Value), (rowA H K).toList[j]? = some u → (wr.alloc (.cells (rowA H K) 88)).cell? ((⟨wr.heap.size, 0, none⟩ : Addr).add j) = some u :=
                World.news_of_block (cs := rowA H K) (MapKept.heap_alloc wr _).1
              have oneA := fun u (hu : u ∈ (rowA H K).toList) => (Array.all_eq_true_iff_forall_mem.1 (rowA_one H K)) u (by simpa using hu)
              have y4a := cell_al y4
              have f4a : ∀ o, (wr.alloc o).frozen? ⟨D + 1, 0, none⟩ = false := fun o => ((World.grownBy_alloc wr o none).frozen_far ⟨D + 1, 0, none⟩ (lt_of_cell y4) (by simp)).trans f4
              have hne : (Value.slice ua K up).ownBlock ≠ some (D + 1) := fun e => by have := own_ge HM.out.mo.own e; omega
              obtain ⟨i0, hi0, ⟨z0, hz0, hzs⟩, hz1, hz2⟩ := info88
              have HA := Lib.hid (And.intro ownA (And.intro newsA (And.intro oneA (And.intro y4a (And.intro f4a hne))))); clear ownA newsA oneA y4a f4a hrow hne
              go_wp2_with (first | (refine wpList_load_row' rfl 88 (.tmp 10) rfl R 0 rfl (rowA H K) _ hrg2 Try.underlying88 rfl (by kernel_rfl) ?_) | (refine Go.Great.wpList_buildSliceTo rfl 22 88 1 _ rfl wr.heap.size rfl (.tmp 61) rfl und22 (rowA H K) (built88 _ _) ?_) | (at_builtin; rw [fold88]; refine (wpList_append_lies _ rfl (.tmp 59) (.tmp 61) 22 rfl (D + 1 + 1) 88 i0 z0 20 160 und22 hi0 hz0 hz1 hz2 hzs (by omega) (.slice ua K up) K _ rfl HA.out.1 ⟨wr.heap.size, 0, none⟩ 1 1 (rowA H K).toList rfl rfl HA.out.2.1 HA.out.2.2.1 (by omega) (by unfold maxLen; omega) (by omega) (by simp; omega) (wr.heap.size + 1) (by simp) ?_); intro g2 cp2 w1 r1 r2 r3 r4; have q1 := r2.cell (HA.out.2.2.2.1 _) (fun e => HA.out.2.2.2.2.2 e.symm); have q2 := (r2.frozen_far ⟨D + 1, 0, none⟩ (lt_of_cell (HA.out.2.2.2.1 _)) (fun e => HA.out.2.2.2.2.2 e.symm)).trans (HA.out.2.2.2.2.1 _); have H1 := Lib.hid (And.intro r1 (And.intro r2 (And.intro r3 r4))); clear r1 r2 r3 r4))
              · exfalso
                have hs20 : (rowA H K).size = 20 := rfl
                simp [hs20] at h
              go_roundw
              case rel =>
                obtain ⟨r1, r2, r3, r4⟩ := H1.out
                refine ⟨t + 1, .slice (some ⟨g2, 0, none⟩) (K + 1) cp2, by omega, rfl, ?_⟩
                have := HM.out.mo.push r1 r2
                rw [show q * G.n + (t + 1) = K + 1 by rw [HKK.out]; omega]
                exact this
              case measure => simp [intOf]; omega
        · obtain rfl : t = G.n := by omega
          clear hM hI
          go_wp2
          exact ⟨⟨q + 1, uv, by omega, by simp, by rw [Nat.succ_mul]; exact HK.out⟩, by simp [intOf]; omega⟩
    · obtain rfl : q = s := by omega
      obtain ⟨ua, up, rfl⟩ := ownsRow_form hM.own
      have y4 := hM.o
      have hbW : Below WB.heap.size WB wr := by rw [H2.out.2.1]; exact hM.bel
      have hgr := below_grown hbW (Nat.le_refl _) none
      have kr := hgr.cell H2.out.2.2.1 (by simp)
      have kf := (hgr.frozen_far ⟨N + 1 + 1, 0, none⟩ (lt_of_cell H2.out.2.2.1) (by simp)).trans H2.out.2.2.2
      have HI := Lib.hid hI.bel
      clear hM hI hbW hgr x0
      go_wp2
      refine bodyPost_ret (v := .agg #[.slice ua (q * G.n) up]) (by simp [results, Try.results51, go_sem, *]) rfl ⟨_, rfl, ?_, ?_⟩
      case refine_2 => rw [← HN.out]; exact HI.out.setCell (by show N ≤ N + 1 + 1; omega) _
      have hne : (Value.slice ua (q * G.n) up).ownBlock ≠ some (N + 1 + 1) := fun e => by have := own_ge HK.out.own e; omega
      have hkept := HK.out.own.kept (grownBy_setCell wr (N + 1 + 1) 0 (.slice ua (q * G.n) up)) (.inr hne)
      have hHn : H.n = q * G.n := by rw [HH.out]; rfl
      show GlAt _ _ _ (covG G fp (fun k => invP (fp k) q) q)
      rw [← HH.out]
      by_cases h0 : q * G.n = 0
      · exact ⟨ua, 0, 0, up, by rw [hHn], fun hp => by exfalso; omega, fun k hk => by exfalso; omega⟩
      · obtain ⟨g2, c2, hv, _⟩ := hkept.form (by omega)
        have hv' := hv
        simp only [Value.slice.injEq, true_and] at hv'
        obtain ⟨rfl, rfl⟩ := hv'
        rw [← hHn] at hkept ⊢
        refine GlAt.of_cells (G := H) (own_lt_size hkept rfl) (fun j u hu => ?_)
        have := hkept.cells (g := g2) rfl j u hu
        rwa [Addr.add_mid, Nat.zero_add] at this
end Go.Proofs.Ytlckpgahijlmoaa
