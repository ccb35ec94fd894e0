/- cover's Compose, exact. -/
import Derived.Test.YtlckpgahijlmoaaQ48
import Derived.Test.YtlckpgahijlmoaaQ33
namespace Go.Proofs.Ytlckpgahijlmoaa
open Go.RowKit Go.Shelf Go.Maps

section
variable (G : Gl) (v : Value) (sh : Int) (pv : Value) (np : Nat) (len : Nat → Nat) (fp : Nat → Nat → Int) (sh2 : Int) (pv2 : Value) (np2 : Nat) (len2 : Nat → Nat) (fp2 : Nat → Nat → Int) (w : World) (hG : GlAt w.heap.size w v G) (hm : G.n ≤ 9223372036854775807) (hpv : LLs w.heap.size w pv np len fp) (hlen : ∀ k, k < np → len k < 4611686018427387904) (hnp : np < 4611686018427387904) (hpv2 : LLs w.heap.size w pv2 np2 len2 fp2) (hlen2 : ∀ k, k < np2 → len2 k < 4611686018427387904) (hnp2 : np2 < 4611686018427387904)
include hG hm hpv hlen hnp hpv2 hlen2 hnp2
set_option maxRecDepth 100000 in
set_option maxHeartbeats 2000000 in
theorem ccomp_walk : Calls Try.prog 19 #[.agg #[v], .agg #[.int .i64 sh, pv], .agg #[.int .i64 sh2, pv2]] w fun e w' => Below w.heap.size w w' ∧ CmpAns G sh np len fp sh2 np2 len2 fp2 e w' := by
  have HG := Lib.hid (And.intro hG (And.intro hpv (And.intro hlen (And.intro hpv2 hlen2))))
  obtain ⟨a, cap, rfl⟩ : ∃ a cap, v = .slice a G.n cap := by obtain ⟨a, _, _, cap, e, _⟩ := hG; exact ⟨a, cap, e⟩
  obtain ⟨pa, pc, rfl⟩ : ∃ a cap, pv = .slice a np cap := by obtain ⟨a, _, _, cap, e, _⟩ := hpv; exact ⟨a, cap, e⟩
  obtain ⟨pa2, pc2, rfl⟩ : ∃ a cap, pv2 = .slice a np2 cap := by obtain ⟨a, _, _, cap, e, _⟩ := hpv2; exact ⟨a, cap, e⟩
  clear hG hpv hlen hpv2 hlen2
  generalize hN : w.heap.size = N at *
  go_enter Try.func19, Try.ntmps19
  go_wp2_with fail
  refine wp_world_named fun W0 hW => ?_
  have h0 : Below N w W0 ∧ W0.cell? ⟨N + 1, 0, none⟩ = some (.int .i64 sh) ∧ W0.cell? ⟨N + 1, 1, none⟩ = some (.slice pa np pc) ∧ W0.cell? ⟨N + 1 + 1, 0, none⟩ = some (.int .i64 sh2) ∧ W0.cell? ⟨N + 1 + 1, 1, none⟩ = some (.slice pa2 np2 pc2) ∧
      (∃ x, W0.cell? ⟨N + 1 + 1 + 1, 0, none⟩ = some x) ∧ (∃ x, W0.cell? ⟨N + 1 + 1 + 1, 1, none⟩ = some x) ∧ W0.frozen? ⟨N + 1 + 1 + 1, 0, none⟩ = false ∧ W0.frozen? ⟨N + 1 + 1 + 1, 1, none⟩ = false ∧ W0.heap.size = N + 4 := by
    rw [hW]; subst hN; exact ⟨by (repeat' (first | assumption | exact Below.refl _ _ | refine below_then ?_ (by assumption) | refine below_al ?_ _ | refine below_dr ?_ | refine below_sc ?_ (by simp <;> omega) _)), by simp [go_sem], by simp [go_sem], by simp [go_sem], by simp [go_sem], ⟨_, by simp [go_sem]; rfl⟩, ⟨_, by simp [go_sem]; rfl⟩, by simp [go_sem], by simp [go_sem], by simp⟩
  clear hW
  obtain ⟨hb, c10, c11, c20, c21, ⟨r0, c30⟩, ⟨r1, c31⟩, f30, f31, hz0⟩ := h0
  have HNN := Lib.hid hN
  have h44 := asked_walk G (.slice a G.n cap) sh (.slice pa np pc) np len fp W0 ((HG.out.1.below hb).mono (by omega)) hm ((HG.out.2.1.below hb).mono (by omega)) HG.out.2.2.1 hnp
  have H0 := Lib.hid (And.intro hb (And.intro c10 (And.intro c11 (And.intro c20 (And.intro c21 (And.intro c30 (And.intro c31 (And.intro f30 f31))))))))
  clear hb c10 c11 c20 c21 c30 c31 f30 f31
  refine h44.mono ?_
  clear h44
  rintro e W1 ⟨hb1, h1⟩
  have hbw := H0.out.1.trans (hb1.mono (by omega))
  have hsz1 := hb1.size
  have k30 := (hb1.cell (p := ⟨N + 1 + 1 + 1, 0, none⟩) (by show N + 1 + 1 + 1 < _; omega)).trans H0.out.2.2.2.2.2.1
  have k31 := (hb1.cell (p := ⟨N + 1 + 1 + 1, 1, none⟩) (by show N + 1 + 1 + 1 < _; omega)).trans H0.out.2.2.2.2.2.2.1
  have z30 := (hb1.frozen (p := ⟨N + 1 + 1 + 1, 0, none⟩) (by show N + 1 + 1 + 1 < _; omega)).trans H0.out.2.2.2.2.2.2.2.1
  have z31 := (hb1.frozen (p := ⟨N + 1 + 1 + 1, 1, none⟩) (by show N + 1 + 1 + 1 < _; omega)).trans H0.out.2.2.2.2.2.2.2.2
  have k10 := (hb1.cell (p := ⟨N + 1, 0, none⟩) (by show N + 1 < _; omega)).trans H0.out.2.1
  have k11 := (hb1.cell (p := ⟨N + 1, 1, none⟩) (by show N + 1 < _; omega)).trans H0.out.2.2.1
  have k20 := (hb1.cell (p := ⟨N + 1 + 1, 0, none⟩) (by show N + 1 + 1 < _; omega)).trans H0.out.2.2.2.1
  have k21 := (hb1.cell (p := ⟨N + 1 + 1, 1, none⟩) (by show N + 1 + 1 < _; omega)).trans H0.out.2.2.2.2.1
  clear hN H0
  rcases h1.out with ⟨c, hc, rfl, herr⟩ | ⟨Cv, B', X, mb, bv, vv, ev, tv, lv, dB, rB, rfl, herr, hok, hcov, hCV⟩
  · have HE := Lib.hid hbw
    have HER := Lib.hid (asked_rerI herr)
    have HC0 := Lib.hid hc
    clear herr h1
    have q1 : (c != 0) = true := by simpa using hc
    clear hb1 hbw hc k10 k11 k20 k21
    go_wp2
    refine bodyPost_ret (v := .tuple #[.agg #[.int .i64 0, .slice none 0 0], .int .i64 c]) (by simp [results, Try.results19, go_sem, *]) rfl ⟨((HE.out.setCell (by show N ≤ N + 1 + 1 + 1; omega) _).setCell (by show N ≤ N + 1 + 1 + 1; omega) _), ?_⟩
    have hcm : cmpI G sh np len fp sh2 np2 len2 fp2 = c := by unfold cmpI; rw [← HER.out, if_neg HC0.out]
    exact ⟨0, .slice none 0 0, by rw [hcm], .inl ⟨by rw [hcm]; exact HC0.out, rfl, rfl⟩⟩
  · clear h1
    have HER := Lib.hid (asked_rerI herr).symm
    clear herr
    have hNW : N + 4 ≤ W1.heap.size := by omega
    have hbw := below_dr hbw
    have hCV := hCV.below (Nat.le_refl _) (below_dr (Below.refl _ _))
    have hNd : N ≤ W1.drew.heap.size := by show N ≤ W1.heap.size; omega
    have h45 := gluing_walk hok hCV (Nat.le_refl _) ((HG.out.1.below hbw).mono (by show N ≤ W1.heap.size; omega)) hcov.range hcov.irange (by have := hcov.small; omega) hcov.small.2
    have hn : G.n ≤ 1000 := by simp only [checkB, Bool.and_eq_true, decide_eq_true_eq] at hok; exact hok.1
    have hs := hcov.small
    have hlo := hcov.lo
    have hrg := hcov.range
    have hsh : sh = ((sh.toNat : Nat) : Int) := by omega
    obtain ⟨H, hH⟩ : ∃ H, H = covG G fp (fun k => invP (fp k) sh.toNat) sh.toNat := ⟨_, rfl⟩
    have hHn : H.n = sh.toNat * G.n := by rw [hH]; rfl
    have HHH := Lib.hid hH
    rw [← hH] at h45
    obtain ⟨s, hse⟩ : ∃ s, s = sh.toNat := ⟨_, rfl⟩
    rw [← hse] at hs hHn hsh hrg
    rw [hsh] at k10
    have hs1 : 1 ≤ s := by omega
    have HR := Lib.hid (And.intro hsh (And.intro hse hrg))
    have HC := Lib.hid (And.intro hok (And.intro hcov (And.intro hCV (And.intro hbw (And.intro h45 (And.intro k20 k21))))))
    have H1 := Lib.hid (And.intro k10 (And.intro k11 (And.intro k30 (And.intro k31 (And.intro z30 z31)))))
    clear hb1 hok hcov hCV hbw h45 hH hz0 hsh hse hrg hlo k10 k11 k30 k31 z30 z31
    go_wp2_with fail
    go_region_held3 (fun w' => w'.cell? ⟨N + 1 + 1, 0, none⟩ = some (.int .i64 sh2) ∧ w'.cell? ⟨N + 1 + 1, 1, none⟩ = some (.slice pa2 np2 pc2))
      (first
        | exact ⟨k20, k21⟩
        | exact ⟨(HB4.out.2.1.cell (p := ⟨N + 1 + 1, 0, none⟩) (lt_of_cell HC.out.2.2.2.2.2.1)).trans HC.out.2.2.2.2.2.1, (HB4.out.2.1.cell (p := ⟨N + 1 + 1, 1, none⟩) (lt_of_cell HC.out.2.2.2.2.2.2)).trans HC.out.2.2.2.2.2.2⟩
        | exact ⟨(HB5.out.1.cell (p := ⟨N + 1 + 1, 0, none⟩) (lt_of_cell HC.out.2.2.2.2.2.1)).trans HC.out.2.2.2.2.2.1, (HB5.out.1.cell (p := ⟨N + 1 + 1, 1, none⟩) (lt_of_cell HC.out.2.2.2.2.2.2)).trans HC.out.2.2.2.2.2.2⟩)
      (first
        | (go_at_call 45; (with_reducible refine HC.out.2.2.2.2.1.mono ?_); rintro e w4 ⟨u4, rfl, hg4, hb4⟩; have HB4 := Lib.hid (And.intro hg4 (And.intro hb4 True.intro)); clear hg4 hb4)
        | (go_at_call 44; (with_reducible refine (asked_walk H u4 sh2 (.slice pa2 np2 pc2) np2 len2 fp2 w4 HB4.out.1 (by rw [hHn]; omega) ((HG.out.2.2.2.1.below (HC.out.2.2.2.1.trans (HB4.out.2.1.mono hNd))).mono (Nat.le_trans hNd HB4.out.2.1.size)) HG.out.2.2.2.2 hnp2).mono ?_); rintro e w5 ⟨hb5, h5⟩; obtain ⟨pt5, c5, rfl, hc5⟩ := h5.two; have HB5 := Lib.hid (And.intro (HB4.out.2.1.trans (hb5.mono HB4.out.2.1.size)) (And.intro hb5 hc5)); clear hb5 h5 hc5))
    rename w5.cell? ⟨N + 1 + 1, 0, none⟩ = some (.int .i64 sh2) ∧ w5.cell? ⟨N + 1 + 1, 1, none⟩ = some (.slice pa2 np2 pc2) => hHd
    clear hHd
    have hW5 : Below W1.drew.heap.size W1.drew w5 := HB5.out.1
    have hz5 : W1.heap.size ≤ w5.heap.size := hW5.size
    have H5n := Lib.hid (show N + 4 ≤ w5.heap.size by omega)
    have lc := fun (o : Nat) (x : Value) (h : W1.cell? ⟨N + 1 + 1 + 1, o, none⟩ = some x) => (hW5.cell (p := ⟨N + 1 + 1 + 1, o, none⟩) (lt_of_cell h)).trans h
    have k30 := lc _ _ H1.out.2.2.1
    have k31 := lc _ _ H1.out.2.2.2.1
    have z30 := (hW5.frozen (p := ⟨N + 1 + 1 + 1, 0, none⟩) (lt_of_cell H1.out.2.2.1)).trans H1.out.2.2.2.2.1
    have z31 := (hW5.frozen (p := ⟨N + 1 + 1 + 1, 1, none⟩) (lt_of_cell H1.out.2.2.2.1)).trans H1.out.2.2.2.2.2
    have k10 := (hW5.cell (p := ⟨N + 1, 0, none⟩) (lt_of_cell H1.out.1)).trans H1.out.1
    have k11 := (hW5.cell (p := ⟨N + 1, 1, none⟩) (lt_of_cell H1.out.2.1)).trans H1.out.2.1
    have k20 := (hW5.cell (p := ⟨N + 1 + 1, 0, none⟩) (lt_of_cell k20)).trans k20
    have hbw := HC.out.2.2.2.1.trans (hW5.mono hNd)
    have hCV1 := HC.out.2.2.1.below (by exact Nat.le_refl _) hW5
    have hcase := HB5.out.2.2
    have hHm : H.n ≤ 1000 := by rw [hHn]; exact hs.2
    have HBW := Lib.hid (And.intro hbw (And.intro hCV1 (And.intro HC.out.1 HC.out.2.1)))
    clear lc hW5 H1 hbw hCV1 HB4 HB5 HC hNd
    obtain ⟨herr5, hcase⟩ := hcase
    have HER5 := Lib.hid (asked_rerI herr5)
    clear herr5
    rcases hcase with hc | ⟨rfl, hok2, hcov2, Cv2, B2, X2, mb2, bv2, vv2, ev2, tv2, lv2, dB2, rB2, rfl, hCV2⟩
    · have q1 : (c5 != 0) = true := by simpa using hc
      have HC0 := Lib.hid hc
      clear hc k10 k11 k20
      go_wp2
      refine bodyPost_ret (v := .tuple #[.agg #[.int .i64 0, .slice none 0 0], .int .i64 110]) (by simp [results, Try.results19, go_sem, *]) rfl ⟨((HBW.out.1.setCell (by show N ≤ N + 1 + 1 + 1; omega) _).setCell (by show N ≤ N + 1 + 1 + 1; omega) _), ?_⟩
      have hcm : cmpI G sh np len fp sh2 np2 len2 fp2 = 110 := by
        unfold cmpI; rw [if_pos HER.out, ← HHH.out, ← HER5.out, if_neg HC0.out]
      exact ⟨0, .slice none 0 0, by rw [hcm], .inl ⟨by rw [hcm]; omega, rfl, rfl⟩⟩
    · have hsh2 : sh2 = ((sh2.toNat : Nat) : Int) := by have := hcov2.lo; omega
      obtain ⟨t, hte⟩ : ∃ t, t = sh2.toNat := ⟨_, rfl⟩
      have ht := hcov2.small
      have hrg2 := hcov2.range
      have hlo2 := hcov2.lo
      have ht1 : 1 ≤ t := by omega
      rw [← hte] at ht hsh2 hrg2 hCV2
      rw [hsh2] at k20
      have HR2 := Lib.hid (And.intro hsh2 (And.intro hte (And.intro hrg2 (And.intro hok2 (And.intro hcov2 hCV2)))))
      clear hsh2 hte hrg2 hlo2 hok2 hcov2
      obtain ⟨S, hS⟩ : ∃ S : Nat, S = s * t := ⟨_, rfl⟩
      have hS2 : S ≤ 576 := by rw [hS]; exact Nat.mul_le_mul hs.1 ht.1
      have q4 : IntKind.i64.wrap ((s : Int) * (t : Int)) = (S : Int) := by rw [hS, IntWalk.i64_in _ (by rw [← Int.natCast_mul, ← hS]; omega)]; simp
      have HS := Lib.hid hS
      clear hS hCV2
      rcases Nat.lt_or_ge 24 S with hS24 | hS24
      · have q5 : decide ((24 : Int) < (S : Int)) = true := by simp; omega
        have k30a := cell_al k30
        have k31a := cell_al k31
        have z30a : ∀ o, (w5.alloc o).frozen? ⟨N + 1 + 1 + 1, 0, none⟩ = false := fun o => ((World.grownBy_alloc w5 o none).frozen_far ⟨N + 1 + 1 + 1, 0, none⟩ (lt_of_cell k30) (by simp)).trans z30
        have z31a : ∀ o, (w5.alloc o).frozen? ⟨N + 1 + 1 + 1, 1, none⟩ = false := fun o => ((World.grownBy_alloc w5 o none).frozen_far ⟨N + 1 + 1 + 1, 1, none⟩ (lt_of_cell k31) (by simp)).trans z31
        go_wp2
        refine bodyPost_ret (v := .tuple #[.agg #[.int .i64 0, .slice none 0 0], .int .i64 2]) (by simp [results, Try.results19, go_sem, *]) rfl ⟨(((HBW.out.1.alloc (by omega) _).setCell (by show N ≤ N + 1 + 1 + 1; omega) _).setCell (by show N ≤ N + 1 + 1 + 1; omega) _), ?_⟩
        have hcm : cmpI G sh np len fp sh2 np2 len2 fp2 = 2 := by
          unfold cmpI; rw [if_pos HER.out, ← HHH.out, ← HER5.out, if_pos rfl, ← HR.out.2.1, ← HR2.out.2.1, ← HS.out, if_pos hS24]
        exact ⟨0, .slice none 0 0, by rw [hcm], .inl ⟨by rw [hcm]; omega, rfl, rfl⟩⟩
      · have q5 : decide ((24 : Int) < (S : Int)) = false := by simp; omega
        have hF : nF G ≤ 4000 := by have := cnt_le (clsAll G).r4 (4 * G.n); unfold nF; omega
        have hmk := run_make_row' (P := Try.prog) 35 3 (.int .i64 0) 8 und35 info3 rfl .i64 .i64 S (by omega) (by omega)
        have c0a := cell_al HBW.out.2.1.c0
        have x8a := cell_al HBW.out.2.1.sp.c8
        obtain ⟨F, hFe⟩ : ∃ F, F = nF G := ⟨_, rfl⟩
        have hFe2 : cnt (clsAll G).r4 (4 * G.n) = F := hFe.symm
        rw [hFe2] at x8a
        rw [← hFe] at hF
        have HF := Lib.hid hFe
        clear hFe hFe2
        go_wp2
        obtain ⟨D, hD⟩ : ∃ D, D = w5.heap.size := ⟨_, rfl⟩
        rw [← hD]
        refine wp_named fun W6 hW6 => ?_
        have h6 : CW w5 W6 D S 0 idF id (.slice none 0 0) [] := by
          rw [hW6]
          exact ⟨World.ownsRow_nil _ _ _ _, fun j hj => by omega, fun i j hi => by omega, by rw [hD]; simp [go_sem], by rw [hD]; simp [go_sem], World.frozen?_alloc_at _ _ _ _ hD, (Below.refl _ _).alloc (by omega) _⟩
        have H5 := Lib.hid (And.intro k30 (And.intro k31 (And.intro z30 (And.intro z31 (And.intro k10 (And.intro k11 k20))))))
        have H6 := Lib.hid (And.intro h6 hD)
        clear h6 hD hW6 c0a x8a k30 k31 z30 z31 k10 k11 k20
        go_loopw [54] (fun i wr => ∃ (k : Nat) (Fz : Nat → Nat → Int) (ds : Nat → Nat) (uv : Value) (xs : List Value), k ≤ F ∧ i = .int .i64 k ∧ CW w5 wr D S k Fz ds uv xs) (fun i _ => F - (intOf i).toNat)
        case atStart => exact ⟨0, _, _, _, _, by omega, rfl, H6.out.1⟩
        case round =>
          have HD := Lib.hid H6.out.2
          clear H6
          obtain ⟨k, Fz, ds, uv, xs, hk, rfl, hZ⟩ := hrel
          have HK := Lib.hid hZ
          obtain ⟨ua, uc, rfl⟩ := ownsRow_form hZ.own
          rcases Nat.lt_or_ge k F with hkF | hkF
          · have d0 := hZ.d0
            have d1 := hZ.d1
            have e0 : wr.drew.cell? ⟨D, 0, none⟩ = some (.int .i64 (S : Int)) := d0
            have e1 : wr.drew.cell? ⟨D, 1, none⟩ = some (.slice ua k uc) := d1
            have d0a := cell_al e0
            have d1a := cell_al e1
            have d1b := fun o o2 => cell_al (cell_al e1 o) o2
            have d0b := fun o o2 => cell_al (cell_al e0 o) o2
            have hDl := lt_of_cell d0
            simp only at hDl
            obtain ⟨i3, hi3, hz30, hz31, hz32⟩ := info_parts info35
            have hk2 : ∀ o o2, CW w5 ((wr.drew.alloc o).alloc o2) D S k Fz ds (.slice ua k uc) xs := fun o o2 => (hZ.kept (grownBy_drew wr none)).kept (grownBy_trans (World.grownBy_alloc _ o none) (World.grownBy_alloc _ o2 none))
            have HK2 := Lib.hid hk2
            have hn8 := World.news_of_block (cs := #[.slice (some ⟨wr.heap.size, 0, none⟩) S S]) (MapKept.heap_alloc (wr.drew.alloc (.cells (madeCells #[.int .i64 0] S) 3)) (.cells #[.slice (some ⟨wr.heap.size, 0, none⟩) S S] 35)).1
            simp only [World.size_alloc] at hn8
            have HN8 := Lib.hid hn8
            have hrow := World.rowIs_made wr.drew (.int .i64 0) S 3
            have HRW := Lib.hid hrow
            clear hZ hk2 hn8 hrow
            go_wp2
            refine wp_region_noPanic ?_
            go_region_law (first
              | (refine step_append_lies _ rfl (.tmp 57) (.tmp 61) 26 rfl (D + 1) 35 i3 _ 1 24 und26 hi3 hz30 hz31 hz32 rfl (by omega) (.slice ua k uc) k xs rfl ((HK.out.own.alloc _).alloc _) ⟨wr.heap.size + 1, 0, none⟩ 1 1 [.slice (some ⟨wr.heap.size, 0, none⟩) S S] rfl rfl HN8.out (by simp [Value.oneCell']) (by omega) (by unfold maxLen; omega) (by omega) (by simp; omega) (wr.heap.size + 1 + 1) (by simp) ?_; intro g cp w8 h1 h2 h3 h4; have c1 := h2.cell (d1b _ _) HK.out.ne; have f1 := (h2.frozen_far ⟨D, 1, none⟩ (lt_of_cell (d1b _ _)) HK.out.ne).trans (HK2.out _ _).f1; have HA := Lib.hid (And.intro h1 (And.intro h2 h3)); clear h1 h2 h3 h4))
            all_goals refine NoPanic.normal ?_
            all_goals go_wp2_with fail
            all_goals exact ⟨⟨k + 1, _, _, _, _, by omega, by simp, CW.push HK.out (grownBy_trans (grownBy_drew wr none) (grownBy_trans (World.grownBy_alloc _ _ none) (World.grownBy_alloc _ _ none))) (Nat.le_refl _) (rowIs_kept HRW.out (World.grownBy_alloc _ _ none) (by simp)) HA.out.1 HA.out.2.1 (HA.out.2.2.imp id (fun e => by simpa using e))⟩, by simp [intOf]; omega⟩
          · obtain rfl : k = F := by omega
            have HF2 := Lib.hid (And.intro hk hkF)
            clear hk hkF
            have hcd := hZ.bel
            have c0 := (hcd.cell (p := ⟨Cv, 0, none⟩) (by rw [HD.out]; exact lt_of_cell HBW.out.2.1.c0)).trans HBW.out.2.1.c0
            have hCVr := HBW.out.2.1.below (by exact hz5) (show Below w5.heap.size w5 wr by rw [← HD.out]; exact hcd)
            have x7 := hCVr.sp.c7
            obtain ⟨nn, hmap⟩ := hCVr.sp.map
            have hmbD : mb < D := by
              obtain ⟨_, hm5⟩ := HBW.out.2.1.sp.map
              rw [HD.out]; exact hm5.lt
            have HM := Lib.hid hmap
            clear hZ hcd hCVr hmap
            go_wp2_with (at_range; refine wpList_range rfl 78 _ rfl und78 HM.out rfl ?_; intro W8 cnt hM hg8 hs8)
            obtain ⟨R, hR⟩ : ∃ R, R = wr.heap.size := ⟨_, rfl⟩
            rw [← hR] at hM ⊢
            have hh8 := HK.out.high
            rw [← hR] at hh8
            have hDR : D < R := by have := lt_of_cell HK.out.d0; simp only at this; omega
            have H8 := Lib.hid (And.intro (HK.out.kept hg8) (And.intro hM (And.intro hh8 hDR)))
            clear hM hg8 hs8 hh8 hDR hR c0 x7
            go_frame
            go_loopg [] cnt (fun g wr => ∃ left Fz, DnI G S left Fz (cmpF G sh fp sh2 fp2) ∧ CW w5 wr D S k Fz ds (.slice ua k uc) xs ∧ MapR wr okp kp vi mb R nn (fD G (4 * G.n)) left g)
            case atStart => exact ⟨_, _, fun p c hp hl => by simp [hp] at hl, H8.out.1, H8.out.2.1⟩
            case round =>
              obtain ⟨left, Fz, hDn, hZ, hM⟩ := hrel
              have HDN := Lib.hid hDn
              clear hDn
              have HK3 := Lib.hid (And.intro hZ hM)
              clear hZ hM
              go_wp2_with (at_next; refine wpList_next (κ := kp) (ν := vi) rfl _ rfl HK3.out.2 (fun a a' _ _ h => kp_inj a a' h) rfl ?_ ?_)
              · intro hl0
                have HFin := Lib.hid (HDN.out.all HBW.out.2.2.1 (fun p => hl0 p.1 p.2))
                clear hl0
                have hb5 := HK3.out.1.bel
                have lt5 : ∀ {b o : Nat} {x : Value}, w5.cell? ⟨b, o, none⟩ = some x → b < D := fun h => by rw [HD.out]; exact lt_of_cell h
                have y30 := (hb5.cell (p := ⟨N + 1 + 1 + 1, 0, none⟩) (lt5 H5.out.1)).trans H5.out.1
                have y31 := (hb5.cell (p := ⟨N + 1 + 1 + 1, 1, none⟩) (lt5 H5.out.2.1)).trans H5.out.2.1
                have g30 := (hb5.frozen (p := ⟨N + 1 + 1 + 1, 0, none⟩) (lt5 H5.out.1)).trans H5.out.2.2.1
                have g31 := (hb5.frozen (p := ⟨N + 1 + 1 + 1, 1, none⟩) (lt5 H5.out.2.1)).trans H5.out.2.2.2.1
                have d0 := HK3.out.1.d0
                have d1 := HK3.out.1.d1
                have hND : N ≤ w5.heap.size := HBW.out.1.size |> fun h => by have := HNN.out; omega
                have HLL := Lib.hid (HK3.out.1.LLn (fun j hj i hi => HFin.out j (by rw [← HF.out]; exact hj) i hi))
                have HB := Lib.hid (HBW.out.1.trans ((HD.out ▸ hb5 : Below w5.heap.size w5 _).mono hND))
                clear hb5 lt5
                go_wp2
                refine bodyPost_ret (v := .tuple #[.agg #[.int .i64 (S : Int), .slice ua k uc], .int .i64 0]) (by simp [results, Try.results19, go_sem, *]) rfl ⟨((HB.out.setCell (by show N ≤ N + 1 + 1 + 1; omega) _).setCell (by show N ≤ N + 1 + 1 + 1; omega) _), ?_⟩
                have hcm : cmpI G sh np len fp sh2 np2 len2 fp2 = 0 := by
                  unfold cmpI; rw [if_pos HER.out, ← HHH.out, ← HER5.out, if_pos rfl, ← HR.out.2.1, ← HR2.out.2.1, ← HS.out, if_neg (by omega)]
                refine ⟨(S : Int), .slice ua k uc, by rw [hcm], .inr ⟨hcm, by rw [← HR.out.2.1, ← HR2.out.2.1, ← HS.out], ?_⟩⟩
                rw [← HR.out.2.1, ← HR2.out.2.1, ← HS.out, ← HF.out]
                have hl1 := HLL.out.kept (grownBy_setCell _ (N + 1 + 1 + 1) 0 (.int .i64 (S : Int))) (fun r e => by cases e; have := HD.out; have := H5n.out; omega)
                have hl2 := hl1.kept (grownBy_setCell _ (N + 1 + 1 + 1) 1 (.slice ua k uc)) (fun r e => by cases e; have := HD.out; have := H5n.out; omega)
                exact hl2.LLs.mono (by simp)
              · intro tt ff c W9 cnt1 hok1 hleft hD1 hM1 hlt hg1 hs1 hen
                obtain ⟨j, hj, hje, hc⟩ := fD_some hD1
                obtain ⟨rfl, rfl⟩ : tt = j / 4 ∧ ff = j % 4 := by simpa using hje
                obtain ⟨q, hq⟩ : ∃ q, q = j / 4 := ⟨_, rfl⟩
                obtain ⟨f, hf⟩ : ∃ f, f = j % 4 := ⟨_, rfl⟩
                have hjt : j = 4 * q + f := by omega
                have hqn : q < G.n := by omega
                have hf4 : f < 4 := by omega
                rw [← hq, ← hf] at hM1 hen hD1
                have hck : c < k := by rw [hc, HF.out]; exact fN_lt HBW.out.2.2.1 hj
                have HDD := Lib.hid hD1
                have hZ9 := HK3.out.1.keptR H8.out.2.2.1 H8.out.2.2.2 hg1
                have hb5 := hZ9.bel
                have lt5 : ∀ {b o : Nat} {x : Value}, w5.cell? ⟨b, o, none⟩ = some x → b < D := fun h => by rw [HD.out]; exact lt_of_cell h
                have y10 := (hb5.cell (p := ⟨N + 1, 0, none⟩) (lt5 H5.out.2.2.2.2.1)).trans H5.out.2.2.2.2.1
                have y10a := cell_al y10
                have H9 := Lib.hid (And.intro hZ9 (And.intro hM1 hlt))
                have hRl := hM1.ltr
                clear hq hf hok1 hleft hD1 hM1 hlt hg1 hs1 hje hj hc hjt hb5 lt5 hZ9
                unfold kp vi at hen
                unfold kp vi
                go_wp2
                obtain ⟨A, hA⟩ : ∃ A, A = W9.heap.size := ⟨_, rfl⟩
                rw [← hA]
                refine wp_named fun Wb hWb => ?_
                have hL : YL w5 Wb D S k R A mb nn cnt1 Fz ds (.slice ua k uc) xs (fD G (4 * G.n)) (fun x => left x && !decide (x = (q, f))) q f := by
                  have hal := World.grownBy_alloc W9 (.cells #[.int .i64 (q : Int), .int .i64 (f : Int)] 83) none
                  rw [← hWb] at hal
                  exact ⟨H9.out.1.kept hal, H9.out.2.1.kept hal (by simp) (by simp), by rw [hWb, hA]; simp [go_sem], by rw [hWb, hA]; simp [go_sem]⟩
                have hRA : R ≤ A := by omega
                have HL := Lib.hid hL
                clear hL hWb hA y10 y10a hen
                have hD0 : DnJ G S s (fun x => left x && !decide (x = (q, f))) (q, f) c 0 0 Fz (cmpF G sh fp sh2 fp2) := HDN.out.start
                have HD0 := Lib.hid hD0
                clear hD0
                go_loopw [80] (fun i wr => ∃ (m : Nat) (Fz : Nat → Nat → Int), m ≤ s ∧ i = .int .i64 m ∧ DnJ G S s (fun x => left x && !decide (x = (q, f))) (q, f) c m 0 Fz (cmpF G sh fp sh2 fp2) ∧ YL w5 wr D S k R A mb nn cnt1 Fz ds (.slice ua k uc) xs (fD G (4 * G.n)) (fun x => left x && !decide (x = (q, f))) q f) (fun i _ => s - (intOf i).toNat)
                case atStart => exact ⟨0, _, by omega, rfl, HD0.out, HL.out⟩
                case round =>
                  clear HL HD0
                  obtain ⟨m, Fz, hm, rfl, hDJ, hZL⟩ := hrel
                  have HDJ := Lib.hid hDJ
                  clear hDJ
                  have HL3 := Lib.hid hZL
                  rcases Nat.lt_or_ge m s with hms | hms
                  · have lt5 : ∀ {b o : Nat} {x : Value}, w5.cell? ⟨b, o, none⟩ = some x → b < D := fun h => by rw [HD.out]; exact lt_of_cell h
                    have y20 := (hZL.z.bel.cell (p := ⟨N + 1 + 1, 0, none⟩) (lt5 H5.out.2.2.2.2.2.2)).trans H5.out.2.2.2.2.2.2
                    clear hZL lt5
                    go_wp2
                    clear y20
                    go_loopw [85] (fun i wr => ∃ (l : Nat) (Fz : Nat → Nat → Int), l ≤ t ∧ i = .int .i64 l ∧ DnJ G S s (fun x => left x && !decide (x = (q, f))) (q, f) c m l Fz (cmpF G sh fp sh2 fp2) ∧ YL w5 wr D S k R A mb nn cnt1 Fz ds (.slice ua k uc) xs (fD G (4 * G.n)) (fun x => left x && !decide (x = (q, f))) q f) (fun i _ => t - (intOf i).toNat)
                    case atStart => exact ⟨0, _, by omega, rfl, HDJ.out, HL3.out⟩
                    case round =>
                      clear HL3 HDJ
                      obtain ⟨l, Fz, hl, rfl, hDJ, hZL⟩ := hrel
                      have HDJ := Lib.hid hDJ
                      clear hDJ
                      have HL4 := Lib.hid hZL
                      rcases Nat.lt_or_ge l t with hlt2 | hlt2
                      · have hcov := HBW.out.2.2.2
                        have hls : len c = s := by
                          have h := hcov.perms c (by rw [hcov.num, ← HF.out]; exact hck)
                          rw [HR.out.1] at h
                          exact permB_len h
                        obtain ⟨pa', pb, po, pc', hpe, hp1, hp2⟩ := HG.out.2.1
                        obtain ⟨rfl, -, rfl⟩ : pa = pa' ∧ np = np ∧ pc = pc' := by simpa using hpe
                        have hcnp : c < np := by rw [hcov.num, ← HF.out]; exact hck
                        obtain ⟨rfl, hpN⟩ := hp1 (by omega)
                        obtain ⟨rv, hrv, ra, rb, ro, rc, rfl, hr1, hr2⟩ := hp2 c hcnp
                        rw [hls] at hrv hr1 hr2
                        obtain ⟨rfl, hrN⟩ := hr1 (by omega)
                        obtain ⟨g, gc, hue, -, hDd, -⟩ := HL4.out.z.at hck
                        obtain ⟨d, hd⟩ : ∃ d, d = ds c := ⟨_, rfl⟩
                        obtain ⟨rfl, -, rfl⟩ : ua = some ⟨g, 0, none⟩ ∧ k = k ∧ uc = gc := by simpa using hue
                        obtain ⟨_, gb, go, _, hge, hga, hgc⟩ := HG.out.1
                        simp only [Value.slice.injEq, true_and] at hge
                        obtain ⟨hge1, hge2⟩ := hge
                        subst hge1 hge2
                        obtain ⟨rfl, hgN⟩ := hga (by omega)
                        obtain ⟨L1, hL1⟩ : ∃ L1 : Nat, L1 = l * s := ⟨_, rfl⟩
                        obtain ⟨M, hM⟩ : ∃ M : Nat, M = L1 + m := ⟨_, rfl⟩
                        have hMS : M < S := by
                          have h1 : (l + 1) * s ≤ t * s := Nat.mul_le_mul_right _ hlt2
                          rw [Nat.succ_mul, Nat.mul_comm t s, ← HS.out] at h1
                          omega
                        have q6 : IntKind.i64.wrap ((l : Int) * (s : Int)) = (L1 : Int) := by rw [hL1, IntWalk.i64_in _ (by rw [← Int.natCast_mul, ← hL1]; omega)]; simp
                        have q7 : IntKind.i64.wrap ((L1 : Int) + (m : Int)) = (M : Int) := by rw [IntWalk.i64_in _ (by omega)]; omega
                        have lt5 : ∀ {b o : Nat} {x : Value}, w5.cell? ⟨b, o, none⟩ = some x → b < D := fun h => by rw [HD.out]; exact lt_of_cell h
                        have hND : N ≤ w5.heap.size := HBW.out.1.size |> fun h => by have := HNN.out; omega
                        have F26 : ∀ W (Fz : Nat → Nat → Int), YL w5 W D S k R A mb nn cnt1 Fz ds (.slice (some ⟨g, 0, none⟩) k uc) xs (fD G (4 * G.n)) (fun x => left x && !decide (x = (q, f))) q f →
                            W.cell? ⟨N + 1, 0, none⟩ = some (.int .i64 (s : Int)) ∧ W.cell? ⟨N + 1, 1, none⟩ = some (.slice (some ⟨pb, po, none⟩) np pc) ∧ W.cell? ⟨pb, po + c, none⟩ = some (.slice (some ⟨rb, ro, none⟩) s rc) ∧ W.cell? ⟨rb, ro + m, none⟩ = some (.int .i64 (fp c m)) ∧
                            W.cell? ⟨D, 1, none⟩ = some (.slice (some ⟨g, 0, none⟩) k uc) ∧ W.cell? ⟨g, c, none⟩ = some (.slice (some ⟨d, 0, none⟩) S S) ∧ (∃ x, W.cell? ⟨d, M, none⟩ = some x) ∧ W.frozen? ⟨d, M, none⟩ = false ∧
                            W.cell? ⟨gb, go + q * 20 + f * 5, none⟩ = some (.int .i64 (G.tet (4 * q + f))) ∧ W.cell? ⟨X, 0, none⟩ = some (.slice (some ⟨gb, go, none⟩) G.n cap) ∧ W.cell? ⟨Cv, 0, none⟩ = some (.pointer (some ⟨X, 0, none⟩)) := fun W Fz hW => by
                          have hb := hW.z.bel
                          have hbN : Below N w W := HBW.out.1.trans ((HD.out ▸ hb : Below w5.heap.size w5 W).mono hND)
                          obtain ⟨g', gc', e1, e2, e4, e5⟩ := hW.z.at hck
                          obtain ⟨rfl, -⟩ : g = g' ∧ uc = gc' := by simpa using e1
                          rw [← hd] at e2 e5
                          have gx := (hgc (4 * q + f) (by omega)).1
                          rw [show go + 5 * (4 * q + f) = go + q * 20 + f * 5 by omega] at gx
                          exact ⟨(hb.cell (p := ⟨N + 1, 0, none⟩) (lt5 H5.out.2.2.2.2.1)).trans H5.out.2.2.2.2.1, (hb.cell (p := ⟨N + 1, 1, none⟩) (lt5 H5.out.2.2.2.2.2.1)).trans H5.out.2.2.2.2.2.1,
                            (hbN.cell (p := ⟨pb, po + c, none⟩) hpN).trans hrv, (hbN.cell (p := ⟨rb, ro + m, none⟩) hrN).trans (hr2 m hms), hW.z.d1, e2, ⟨_, e5.cell hMS⟩, e5.frozen M,
                            (hbN.cell (p := ⟨gb, go + q * 20 + f * 5, none⟩) hgN).trans gx, (hb.cell (p := ⟨X, 0, none⟩) (lt5 HBW.out.2.1.sp.c0)).trans HBW.out.2.1.sp.c0, (hb.cell (p := ⟨Cv, 0, none⟩) (lt5 HBW.out.2.1.c0)).trans HBW.out.2.1.c0⟩
                        have HF26 := Lib.hid F26
                        obtain ⟨y10, y11, yr, yf, yD, yg, ⟨yv, yd⟩, zd, gx, xx, cx⟩ := F26 wr _ HL4.out
                        have a0 := HL4.out.a0
                        have a1 := HL4.out.a1
                        obtain ⟨T, hT⟩ : ∃ T, T = G.tet (4 * q + f) := ⟨_, rfl⟩
                        rw [← hT] at gx
                        have HXD := Lib.hid (And.intro hd hDd)
                        obtain ⟨z0, hz0⟩ : ∃ z0, z0 = fp c m := ⟨_, rfl⟩
                        rw [← hz0] at yf
                        have hcv := cmp_value HBW.out.2.2.1 HBW.out.2.2.2 HHH.out HR2.out.2.2.2.2.1 HR.out.2.1 HR2.out.2.1 HDD.out hms hlt2
                        rw [← hL1, ← hM, ← hT, ← hz0] at hcv
                        have HCV := Lib.hid hcv
                        have HML := Lib.hid hM
                        have HLL1 := Lib.hid hL1
                        clear hcv
                        clear hcov hls hpe hp1 hp2 hrv hr1 hr2 hue hd hga hgc hL1 hM hND F26 lt5 hZL hT hDd
                        have HZ0 := Lib.hid hz0
                        clear hz0
                        have hl0 : 0 ≤ (l : Int) := by omega
                        have hm0 : 0 ≤ (m : Int) := by omega
                        have hms' : (m : Int) < (s : Int) := by omega
                        have c0' : 0 ≤ (c : Int) := by omega
                        have ck' : (c : Int) < (k : Int) := by omega
                        have cnp' : (c : Int) < (np : Int) := by omega
                        have M0 : 0 ≤ (M : Int) := by omega
                        have MS : (M : Int) < (S : Int) := by omega
                        have q0 : 0 ≤ (q : Int) := by omega
                        have qn : (q : Int) < (G.n : Int) := by omega
                        have f0 : 0 ≤ (f : Int) := by omega
                        have f4 : (f : Int) < 4 := by omega
                        rcases Int.lt_or_le T 0 with hT0 | hT0
                        · have q1 : decide (0 ≤ T) = false := by simp; omega
                          obtain ⟨hzm, hcx⟩ := HCV.out.1 hT0
                          rw [hzm] at yf
                          have HCX := Lib.hid hcx
                          clear hzm hcx
                          go_wp2
                          refine wp_region_still_lit (by kernel_rfl) (by kernel_rfl) ?_
                          repeat (refine wpStill_step (fun K hK => ?_); go_simp; refine hK _ ?_; clear hK K)
                          refine wpStill_nil ?_
                          go_wp2
                          refine region_tail 25 (by kernel_rfl) (by kernel_rfl) ?_
                          repeat (refine wpStill_step (fun K hK => ?_); go_simp; refine hK _ ?_; clear hK K)
                          refine wpStill_nil ?_
                          go_wp2
                          have hx1 := HXD.out.1
                          subst hx1
                          exact ⟨⟨l + 1, _, by omega, by simp, HDJ.out.put HBW.out.2.2.1 HDD.out hms (by rw [← HLL1.out]; exact HML.out) HCX.out.symm, ((HL4.out.kept (grownBy_drew _ none)).kept (grownBy_drew _ none)).store H8.out.2.2.1 hRA hmbD hck _⟩, by simp [intOf]; omega⟩
                        · have q1 : decide (0 ≤ T) = true := by simp; omega
                          obtain ⟨P1, hP1⟩ : ∃ P1 : Nat, P1 = m * G.n := ⟨_, rfl⟩
                          obtain ⟨P2, hP2⟩ : ∃ P2 : Nat, P2 = P1 + q := ⟨_, rfl⟩
                          have hP : P2 < H.n := by
                            have h1 : (m + 1) * G.n ≤ s * G.n := Nat.mul_le_mul_right _ hms
                            rw [Nat.succ_mul] at h1
                            omega
                          have q8 : IntKind.i64.wrap ((m : Int) * (G.n : Int)) = (P1 : Int) := by rw [hP1, IntWalk.i64_in _ (by rw [← Int.natCast_mul, ← hP1]; omega)]; simp
                          have q9 : IntKind.i64.wrap ((P1 : Int) + (q : Int)) = (P2 : Int) := by rw [IntWalk.i64_in _ (by omega)]; omega
                          have hz2 := HL4.out.kept (grownBy_drew wr none)
                          have hz2 := hz2.kept (grownBy_drew _ none)
                          have h56 := cross_walk HR2.out.2.2.2.1 (HR2.out.2.2.2.2.2.below (Nat.le_refl _) (HD.out ▸ hz2.z.bel)) P2 f l hP hf4 hlt2
                          obtain ⟨l', u', b1, b2, b3, b4, b5⟩ := HCV.out.2 (by omega)
                          rw [show m * G.n + q = P2 by omega] at b4
                          rw [b4] at h56
                          obtain ⟨Y1, hY1⟩ : ∃ Y1 : Nat, Y1 = u' * s := ⟨_, rfl⟩
                          obtain ⟨Y, hY⟩ : ∃ Y : Nat, Y = Y1 + l' := ⟨_, rfl⟩
                          have hYS : Y < S := by
                            rw [hY, hY1, HS.out]; exact mix_lt b2 b1
                          have q10 : IntKind.i64.wrap ((u' : Int) * (s : Int)) = (Y1 : Int) := by rw [hY1, IntWalk.i64_in _ (by rw [← Int.natCast_mul, ← hY1]; omega)]; simp
                          have q11 : IntKind.i64.wrap ((Y1 : Int) + (l' : Int)) = (Y : Int) := by rw [IntWalk.i64_in _ (by omega)]; omega
                          have HCX := Lib.hid (show (Y : Int) = _ from (by rw [b5, hY, hY1] : (Y : Int) = cmpF G sh fp sh2 fp2 c M))
                          have HB3 := Lib.hid b3
                          clear hY hY1 hYS b1 b2 b3 b4 b5
                          have HCR := Lib.hid (And.intro h56 hz2)
                          clear h56 hz2 hP1 hP2
                          go_wp2
                          refine wp_region_still_lit (by kernel_rfl) (by kernel_rfl) ?_
                          repeat (refine wpStill_step (fun K hK => ?_); go_simp; refine hK _ ?_; clear hK K)
                          refine wpStill_nil ?_
                          go_wp2
                          refine region_tail 18 (by kernel_rfl) (by kernel_rfl) ?_
                          repeat (refine wpStill_step (fun K hK => ?_); go_simp; refine hK _ ?_; clear hK K)
                          refine wpStill_nil ?_
                          clear y10 y11 yr yf yD yg yd zd gx xx cx a0 a1
                          go_wp2_with ((go_at_call 56; (with_reducible refine HCR.out.1.mono ?_); rintro e w9 ⟨rfl, hb9⟩; have hz9 := HCR.out.2.kept (below_grown hb9 (Nat.le_refl _) none); have HZ9 := Lib.hid hz9; obtain ⟨y10, y11, yr, yf, yD, yg, ⟨yv, yd⟩, zd, -⟩ := HF26.out w9 _ hz9; rw [← HZ0.out, HB3.out] at yf; clear hz9 hb9))
                          refine region_tail 25 (by kernel_rfl) (by kernel_rfl) ?_
                          repeat (refine wpStill_step (fun K hK => ?_); go_simp; refine hK _ ?_; clear hK K)
                          refine wpStill_nil ?_
                          go_wp2
                          have hx1 := HXD.out.1
                          subst hx1
                          exact ⟨⟨l + 1, _, by omega, by simp, HDJ.out.put HBW.out.2.2.1 HDD.out hms (by rw [← HLL1.out]; exact HML.out) HCX.out, (HZ9.out.kept (grownBy_drew _ none)).store H8.out.2.2.1 hRA hmbD hck _⟩, by simp [intOf]; omega⟩
                      · obtain rfl : l = t := by omega
                        clear hZL
                        go_wp2
                        exact ⟨⟨m + 1, _, by omega, by simp, HDJ.out.next HS.out, HL4.out⟩, by simp [intOf]; omega⟩
                  · obtain rfl : m = s := by omega
                    clear hZL
                    go_wp2
                    go_roundg cnt1
                    case measure => exact H9.out.2.2
                    case rel => exact ⟨_, _, HDJ.out.done HS.out HDD.out, HL3.out.z, HL3.out.m⟩
end
end Go.Proofs.Ytlckpgahijlmoaa
