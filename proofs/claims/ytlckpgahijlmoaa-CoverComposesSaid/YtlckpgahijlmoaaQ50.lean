/- R11's Compose: the walk. -/
import Derived.Test.YtlckpgahijlmoaaQ49
namespace Go.Proofs.Ytlckpgahijlmoaa
open Go.RowKit Go.Shelf Go.Maps

section
variable (G : Gl) (v : Value) (S : Int) (pv : Value) (np : Nat) (len : Nat → Nat) (fp : Nat → Nat → Int) (S2 : Int) (pv2 : Value) (np2 : Nat) (len2 : Nat → Nat) (fp2 : Nat → Nat → Int) (w : World) (hG : GlAt w.heap.size w v G) (hm : G.n ≤ 9223372036854775807) (hpv : LLc w.heap.size w pv np len fp) (hlen : ∀ k, k < np → len k < 4611686018427387904) (hnp : np < 4611686018427387904) (hpv2 : LLc w.heap.size w pv2 np2 len2 fp2) (hlen2 : ∀ k, k < np2 → len2 k < 4611686018427387904) (hnp2 : np2 < 4611686018427387904)
include hG hm hpv hlen hnp hpv2 hlen2 hnp2
set_option maxRecDepth 100000 in
set_option maxHeartbeats 8000000 in
theorem rcomp_walk : Calls Try.prog 18 #[.agg #[v], .agg #[.int .i64 S, pv], .agg #[.int .i64 S2, pv2]] w fun e w' => Below w.heap.size w w' ∧ CmpAns G S np len fp S2 np2 len2 fp2 e w' := by
  have HG := Lib.hid (And.intro hG (And.intro hpv (And.intro hlen (And.intro hpv2 hlen2))))
  obtain ⟨ga, gc, rfl⟩ : ∃ a cap, v = .slice a G.n cap := by obtain ⟨a, _, _, cap, e, _⟩ := hG; exact ⟨a, cap, e⟩
  obtain ⟨pa, pc, rfl⟩ : ∃ a cap, pv = .slice a np cap := by obtain ⟨a, _, _, cap, e, _⟩ := hpv; exact ⟨a, cap, e⟩
  obtain ⟨pa2, pc2, rfl⟩ : ∃ a cap, pv2 = .slice a np2 cap := by obtain ⟨a, _, _, cap, e, _⟩ := hpv2; exact ⟨a, cap, e⟩
  clear hG hpv hlen hpv2 hlen2
  obtain ⟨N, hN⟩ : ∃ N, N = w.heap.size := ⟨_, rfl⟩
  have HN := Lib.hid hN
  go_enter Try.func18, Try.ntmps18
  go_wp2_with fail
  rw [← hN]
  refine wp_world_named fun W0 hW => ?_
  have h0 : C7 w W0 N ga G.n gc S pa np pc S2 pa2 np2 pc2 := by
    rw [hW, hN]; exact ⟨by (repeat' (first | assumption | exact Below.refl _ _ | refine below_then ?_ (by assumption) | refine below_al ?_ _ | refine below_dr ?_ | refine below_sc ?_ (by simp <;> omega) _)), by simp [go_sem], by simp [go_sem], by simp [go_sem], by simp [go_sem], by simp [go_sem], by simp [go_sem], by simp [go_sem], by simp [go_sem], by simp [go_sem]⟩
  have at0 := fun W (h : C7 w W N ga G.n gc S pa np pc S2 pa2 np2 pc2) =>
    have hb : Below w.heap.size w W := by rw [← HN.out]; exact h.bel
    And.intro ((HG.out.1.below hb).mono hb.size) (And.intro ((HG.out.2.1.below hb).mono hb.size) ((HG.out.2.2.2.1.below hb).mono hb.size))
  have HAT := Lib.hid at0
  clear hW hN at0
  refine (rcheck_walk G _ S _ np len fp W0 (HAT.out _ h0).1 hm (HAT.out _ h0).2.1 HG.out.2.2.1 hnp).mono ?_
  rintro e W1 ⟨rfl, hb1⟩
  have h1 := h0.below hb1
  clear h0 hb1
  rcases Classical.em (¬ rerI G S np len fp = 0) with hz | hz
  · have HZ := Lib.hid hz
    obtain ⟨c, hc⟩ : ∃ c, c = rerI G S np len fp := ⟨_, rfl⟩
    rw [← hc] at hz HZ ⊢
    have HC := Lib.hid hc
    have q1 : (c != 0) = true := by simpa using hz
    obtain ⟨hbw, k0, k1, k2, k3, k4, y0, y1, z0, z1⟩ := h1
    have HB := Lib.hid hbw
    clear hz hc k0 k1 k2 k3 k4 hbw
    go_wp2
    have hcm : cmpI G S np len fp S2 np2 len2 fp2 = c := by unfold cmpI; rw [← HC.out, if_neg HZ.out]
    refine bodyPost_ret (v := .tuple #[.agg #[.int .i64 0, .slice none 0 0], .int .i64 c]) (by simp [results, Try.results18, go_sem, *]) rfl ⟨?_, 0, .slice none 0 0, by rw [hcm], .inl ⟨by rw [hcm]; exact HZ.out, rfl, rfl⟩⟩
    rw [← HN.out]; exact (HB.out.setCell (by show N ≤ N + 1 + 1 + 1; omega) _).setCell (by show N ≤ N + 1 + 1 + 1; omega) _
  have hz := Classical.not_not.1 hz
  obtain ⟨hok, hcov⟩ := rerI_zero hz
  have hask : askI G = 0 := by
    by_cases q : askI G = 0
    · exact q
    · unfold rerI at hz; rw [if_neg q] at hz; exact absurd hz q
  have HZ := Lib.hid hz
  rw [hz]
  clear hz
  have hsh := hcov.sh
  have hsz := hcov.small
  have hlo := hcov.lo
  have hnum := hcov.num
  subst hnum
  obtain ⟨s, rfl⟩ : ∃ s : Nat, S = s := ⟨S.toNat, by omega⟩
  obtain ⟨H, hH⟩ : ∃ H, H = covG G fp (fun k => invP (fp k) ((s : Int)).toNat) ((s : Int)).toNat := ⟨_, rfl⟩
  have h51 := rmade_walk hok s (nF G) len fp hcov _ _ W1 (HAT.out _ h1).1 (HAT.out _ h1).2.1.LLs
  have hokH : checkB H = true := by rw [hH]; exact cov_valid hok hsh hsz.2
  have haskH : askI H = 0 := by rw [hH]; exact cov_ask hok hsh hsz.2 hask
  rw [← hH] at h51
  obtain ⟨nf, hnf⟩ : ∃ nf, nf = nF G := ⟨_, rfl⟩
  have HOK := Lib.hid (And.intro hok (And.intro hcov (And.intro hH (And.intro hokH (And.intro haskH (And.intro hsh (And.intro hsz hnf)))))))
  have H51 := Lib.hid h51
  rw [← hnf] at h1 ⊢
  have hnfb : nf ≤ 4000 := by have := cnt_le (clsAll G).r4 (4 * G.n); have := ok_size hok; rw [hnf]; unfold nF; omega
  have y0 := h1.c0
  have y1 := h1.c1
  have y2 := h1.c2
  have H1 := Lib.hid h1
  clear h51 hok hcov hH hokH haskH hsh hsz hask hnf h1
  go_wp2_with fail
  rw [HOK.out.2.2.2.2.2.2.2]
  refine H51.out.mono ?_
  rintro e W2 ⟨u, rfl, hgl, hb2⟩
  obtain ⟨ha, hc, rfl⟩ : ∃ a c, u = .slice a H.n c := by obtain ⟨a, _, _, cap, e, _⟩ := hgl; exact ⟨a, cap, e⟩
  rw [← HOK.out.2.2.2.2.2.2.2]
  have h2 := H1.out.below hb2
  have H2 := Lib.hid (And.intro h2 hgl)
  clear y0 y1 y2 hb2 hgl H1
  have y3 := cell_al h2.c3
  have y4 := cell_al h2.c4
  clear h2
  go_wp2_with fail
  refine wp_world_named fun W3 hW => ?_
  obtain ⟨B, hB⟩ : ∃ B, B = W2.heap.size := ⟨_, rfl⟩
  rw [← hB]
  have hb3 : Below W2.heap.size W2 W3 := by rw [hW]; (repeat' (first | assumption | exact Below.refl _ _ | refine below_then ?_ (by assumption) | refine below_al ?_ _ | refine below_dr ?_ | refine below_sc ?_ (by simp <;> omega) _))
  have h3 := H2.out.1.below hb3
  have hx3 : W3.cell? ⟨B, 0, none⟩ = some (.slice ha H.n hc) := by rw [hW, hB]; simp [go_sem]
  have hg3 := (H2.out.2.below hb3).mono hb3.size
  have hNB : N + 4 ≤ B := by have := H2.out.1.lt; omega
  clear hW hB hb3 y3 y4 H2
  refine (ris_walk HOK.out.2.2.2.1 S2 np2 len2 fp2 _ _ W3 hg3 (HAT.out _ (by rw [HOK.out.2.2.2.2.2.2.2] at h3; exact h3)).2.2 HG.out.2.2.2.2 hnp2).mono ?_
  rintro e W4 ⟨rfl, hb4⟩
  have h4 := h3.below hb4
  have hx4 := (hb4.cell (p := ⟨B, 0, none⟩) (lt_of_cell hx3)).trans hx3
  have hg4 := (hg3.below hb4).mono hb4.size
  clear h3 hx3 hg3 hb4
  rcases Classical.em (¬ IsP H S2 np2 len2 fp2) with hI | hI
  · rw [boolOf_false hI]
    have hI2 := Lib.hid hI
    clear hI
    obtain ⟨hbw, k0, k1, k2, k3, k4, y0, y1, z0, z1⟩ := h4
    have HB := Lib.hid hbw
    clear k0 k1 k2 k3 k4 hbw
    go_wp2
    have hcm : cmpI G s (nF G) len fp S2 np2 len2 fp2 = 110 := by
      unfold cmpI; rw [if_pos HZ.out, ← HOK.out.2.2.1, if_neg (fun q => hI2.out ((rerI_is HOK.out.2.2.2.2.1).1 q))]
    refine bodyPost_ret (v := .tuple #[.agg #[.int .i64 0, .slice none 0 0], .int .i64 110]) (by simp [results, Try.results18, go_sem, *]) rfl ⟨?_, 0, .slice none 0 0, by rw [hcm], .inl ⟨by rw [hcm]; omega, rfl, rfl⟩⟩
    rw [← HN.out]; exact (HB.out.setCell (by show N ≤ N + 1 + 1 + 1; omega) _).setCell (by show N ≤ N + 1 + 1 + 1; omega) _
  have hI := Classical.not_not.1 hI
  rw [boolOf_true hI]
  have hz2 := (rerI_is HOK.out.2.2.2.2.1).2 hI
  have hcov2 := (cov_iff HOK.out.2.2.2.1 _ _ _ _).2 hI
  clear hI
  have hlo2 := hcov2.lo
  have hnum2 := hcov2.num
  have hsm2 := hcov2.small
  have hsm1 := HOK.out.2.2.2.2.2.2.1
  obtain ⟨t, rfl⟩ : ∃ t : Nat, S2 = t := ⟨S2.toNat, by omega⟩
  rw [show ((t : Int)).toNat = t from rfl] at hsm2
  rw [show ((s : Int)).toNat = s from rfl] at hsm1
  subst hnum2
  obtain ⟨nh, hnh⟩ : ∃ nh, nh = nF H := ⟨_, rfl⟩
  obtain ⟨ST, hST⟩ : ∃ ST : Nat, ST = s * t := ⟨_, rfl⟩
  have hSTb : ST ≤ 576 := by rw [hST]; exact Nat.mul_le_mul hsm1.1 hsm2.1
  have q4 : IntKind.i64.wrap ((s : Int) * (t : Int)) = (ST : Int) := by rw [hST, IntWalk.i64_in _ (by rw [← Int.natCast_mul, ← hST]; omega)]; simp
  rw [← hnh] at h4 ⊢
  have hnhb : nh ≤ 4000 := by have := cnt_le (clsAll H).r4 (4 * H.n); have := ok_size HOK.out.2.2.2.1; rw [hnh]; unfold nF; omega
  have HOK2 := Lib.hid (And.intro hcov2 (And.intro hz2 (And.intro hcov2.sh (And.intro hsm1 (And.intro hsm2 (And.intro hnh (And.intro hST (And.intro hlo hlo2))))))))
  clear hcov2 hz2 hsm1 hsm2 hnh hST hlo hlo2
  have y1 := h4.c1
  have y3 := h4.c3
  rcases Nat.lt_or_ge 24 ST with hS24 | hS24
  · have q5 : decide ((24 : Int) < (ST : Int)) = true := by simp; omega
    have r0 := h4.r0
    have r1 := h4.r1
    have z0 := h4.f0
    have z1 := h4.f1
    have HB := Lib.hid h4.bel
    clear h4 hx4 hg4
    go_wp2
    have hcm : cmpI G s (nF G) len fp t (nF H) len2 fp2 = 2 := by
      unfold cmpI; rw [if_pos HZ.out, ← HOK.out.2.2.1, if_pos HOK2.out.2.1, show ((s : Int)).toNat = s from rfl, show ((t : Int)).toNat = t from rfl, ← HOK2.out.2.2.2.2.2.2.1, if_pos hS24]
    refine bodyPost_ret (v := .tuple #[.agg #[.int .i64 0, .slice none 0 0], .int .i64 2]) (by simp [results, Try.results18, go_sem, *]) rfl ⟨?_, 0, .slice none 0 0, by rw [hcm], .inl ⟨by rw [hcm]; omega, rfl, rfl⟩⟩
    rw [← HN.out]; exact (HB.out.setCell (by show N ≤ N + 1 + 1 + 1; omega) _).setCell (by show N ≤ N + 1 + 1 + 1; omega) _
  have q5 : decide ((24 : Int) < (ST : Int)) = false := by simp; omega
  have hN4 := h4.lt
  have cells := fun W (hb : Below W4.heap.size W4 W) => And.intro ((hb.cell (p := ⟨N, 0, none⟩) (lt_of_cell h4.c0)).trans h4.c0) ((hb.cell (p := ⟨B, 0, none⟩) (lt_of_cell hx4)).trans hx4)
  have k53 := fun W (hb : Below W4.heap.size W4 W) => And.intro (rskeleton_walk G (.slice ga G.n gc) W (HAT.out W (by have := h4.below hb; rw [HOK.out.2.2.2.2.2.2.2, HOK2.out.2.2.2.2.2.1] at this; exact this)).1 HOK.out.1) (rskeleton_walk H (.slice ha H.n hc) W ((hg4.below hb).mono hb.size) HOK.out.2.2.2.1)
  have HC := Lib.hid (And.intro cells k53)
  have c0 := h4.c0
  have H4 := Lib.hid (And.intro h4 (And.intro hx4 hg4))
  clear cells k53 h4 hg4
  go_wp2_with fail
  go_cut [10, 11] from 43 to 46 (fun p q wc => ∃ D1 D2, p = .pointer (some ⟨D1, 0, none⟩) ∧ q = .pointer (some ⟨D2, 0, none⟩) ∧ Below W4.heap.size W4 wc ∧ SKB wc D1 G ∧ SKB wc D2 H)
  case first =>
    go_region_held3 (fun w' => w'.cell? ⟨N, 0, none⟩ = some (.slice ga G.n gc) ∧ w'.cell? ⟨B, 0, none⟩ = some (.slice ha H.n hc))
      (with_reducible exact HC.out.1 _ (by (repeat' (first | assumption | exact Below.refl _ _ | refine below_then ?_ (by assumption) | refine below_al ?_ _ | refine below_dr ?_ | refine below_sc ?_ (by simp <;> omega) _))))
      (first
        | (go_at_call 53; (with_reducible refine (HC.out.2 _ (by (repeat' (first | assumption | exact Below.refl _ _ | refine below_then ?_ (by assumption) | refine below_al ?_ _ | refine below_dr ?_ | refine below_sc ?_ (by simp <;> omega) _)))).1.mono ?_); rintro e w5 ⟨sv5, rfl, hsk5, hb5⟩; obtain ⟨va, vc, ea, ec, ta, tc, da, dn, dc, ra, rn, rc, la, ln, lc, rfl, hw5⟩ := hsk5.skw; clear hsk5; obtain ⟨hc5, hf5⟩ := bcell hb5; have hs5 := hb5.size; (try simp only [World.size_alloc, World.size_drew] at hs5); (try (have z05 : W4.heap.size < w5.heap.size := by omega)); (try (have z15 : W4.heap.size + 1 < w5.heap.size := by omega)); (try (have z65 : w6.heap.size < w5.heap.size := by omega)); (try (have z75 : w6.heap.size + 1 < w5.heap.size := by omega)))
        | (go_at_call 53; (with_reducible refine (HC.out.2 _ (by (repeat' (first | assumption | exact Below.refl _ _ | refine below_then ?_ (by assumption) | refine below_al ?_ _ | refine below_dr ?_ | refine below_sc ?_ (by simp <;> omega) _)))).2.mono ?_); rintro e w6 ⟨sv6, rfl, hsk6, hb6⟩; obtain ⟨va', vc', ea', ec', ta', tc', da', dn', dc', ra', rn', rc', la', ln', lc', rfl, hw6⟩ := hsk6.skw; clear hsk6; obtain ⟨hc6, hf6⟩ := bcell hb6; have hs6 := hb6.size; (try simp only [World.size_alloc] at hs6); (try (have z06 : W4.heap.size < w6.heap.size := by omega)); (try (have z16 : W4.heap.size + 1 < w6.heap.size := by omega)); (try (have z56 : w5.heap.size < w6.heap.size := by omega)); (try (have z57 : w5.heap.size + 1 < w6.heap.size := by omega))))
    all_goals go_wp2_with fail
    all_goals go_meet
    all_goals clear HG HAT HOK HOK2 HC H4 HZ H51 HN hm hnp hnp2 hz hI hSTb q4 q5 hnhb hnfb hS24 y1 y3 c0 hx4 hc5 hf5 hc6 hf6
    all_goals exact ⟨_, _, rfl, rfl, by with_reducible (repeat' (first | assumption | exact Below.refl _ _ | refine below_then ?_ (by assumption) | refine below_al ?_ _ | refine below_dr ?_ | refine below_sc ?_ (by simp <;> omega) _)), ⟨va, vc, ea, ec, ta, tc, da, dn, dc, ra, rn, rc, la, ln, lc, _, (by with_reducible (repeat (first | (refine SB.made ?_; simp; done) | refine SB.stored ?_ | refine SB.sc ?_ (by omega) | refine SB.al ?_ _ | refine SB.bl ?_ hb6 | refine SB.bl ?_ hb5 | refine SB.dr ?_ | (refine Six.made ?_ _ _ _ _ _ _; simp; done) | refine Six.sc ?_ | refine Six.al ?_ _ | refine Six.bl ?_ hb6 | refine Six.bl ?_ hb5 | refine Six.dr ?_))), hw5.of (by with_reducible (repeat (first | exact Tr.refl _ _ | refine Tr.sc ?_ (by first | omega | (simp only [World.size_alloc, World.size_drew]; omega)) | refine Tr.al ?_ _ | refine Tr.bl ?_ hb6 | refine Tr.bl ?_ hb5 | refine Tr.dr ?_)))⟩, ⟨va', vc', ea', ec', ta', tc', da', dn', dc', ra', rn', rc', la', ln', lc', _, (by with_reducible (repeat (first | (refine SB.made ?_; simp; done) | refine SB.stored ?_ | refine SB.sc ?_ (by omega) | refine SB.al ?_ _ | refine SB.bl ?_ hb6 | refine SB.bl ?_ hb5 | refine SB.dr ?_ | (refine Six.made ?_ _ _ _ _ _ _; simp; done) | refine Six.sc ?_ | refine Six.al ?_ _ | refine Six.bl ?_ hb6 | refine Six.bl ?_ hb5 | refine Six.dr ?_))), hw6.of (by with_reducible (repeat (first | exact Tr.refl _ _ | refine Tr.sc ?_ (by first | omega | (simp only [World.size_alloc]; omega)) | refine Tr.al ?_ _ | refine Tr.bl ?_ hb6 | refine Tr.bl ?_ hb5 | refine Tr.dr ?_)))⟩⟩
  case rest =>
    obtain ⟨D1, D2, rfl, rfl, hbc, hs1, hs2⟩ := hcut
    obtain ⟨va, vc, ea, ec, ta, tc, da, dn, dc, ra, rn, rc, la, ln, lc, K1, hsb1, hw1⟩ := hs1
    obtain ⟨va', vc', ea', ec', ta', tc', da', dn', dc', ra', rn', rc', la', ln', lc', K2, hsb2, hw2⟩ := hs2
    obtain ⟨wk, hwk⟩ : ∃ wk, wk = wc := ⟨_, rfl⟩
    subst hwk
    have h5 := H4.out.1.below hbc
    have hx5 := (hbc.cell (p := ⟨B, 0, none⟩) (lt_of_cell H4.out.2.1)).trans H4.out.2.1
    have hg5 := (H4.out.2.2.below hbc).mono hbc.size
    obtain ⟨E, hE⟩ : ∃ E, E = cmpF G s fp t fp2 := ⟨_, rfl⟩
    have HE := Lib.hid hE
    have y1 := h5.c1
    have y2 := h5.c2
    have y3 := h5.c3
    have hNc := h5.lt
    have y1a := cell_al y1
    have y2a := cell_al y2
    have y3a := cell_al y3
    have y1b := fun o => cell_al (y1a o)
    have y2b := fun o => cell_al (y2a o)
    have y3b := fun o => cell_al (y3a o)
    have hat := fun W (hb : Below wk.heap.size wk W) =>
      have hg := below_grown hb (Nat.le_refl _) none
      have h := h5.below hb
      have ha := HAT.out W (by rw [HOK.out.2.2.2.2.2.2.2, HOK2.out.2.2.2.2.2.1] at h; exact h)
      And.intro h (And.intro (hg.cell hx5 (by simp)) (And.intro (hsb1.bl hb) (And.intro (hsb2.bl hb) (And.intro ha (And.intro ((hg5.below hb).mono hb.size) (And.intro (hw1.below hb) (hw2.below hb)))))))
    have HA := Lib.hid hat
    clear hat h5 hx5 hg5 H4 HC hsb1 hsb2 hw1 hw2 hE hbc
    have hmk := run_make_row' (P := Try.prog) 26 35 (.slice none 0 0) 24 und26 info35 rfl .i64 .i64 nf (by omega) (by omega)
    go_wp2_with fail
    go_cut [12] from 47 to 56 (fun p wd => ∃ D d, p = .pointer (some ⟨D, 0, none⟩) ∧ RC wk wd wk.heap.size D d nf ST E (fun _ => False))
    case first =>
      go_region
      all_goals (go_wp2_with fail; go_meet)
      · exact ⟨_, _, rfl, RC.newA wk nf ST E⟩
      · exact ⟨_, _, rfl, RC.newB wk nf ST E⟩
    case rest =>
      obtain ⟨D, d, rfl, hRC⟩ := hcut
      have a2 := (HA.out wc hRC.bel).2.2.1.d2
      have HRC := Lib.hid hRC
      clear hRC hmk y1 y2 y3 y1a y2a y3a y1b y2b y3b
      go_wp2_with fail
      go_loopw [60] (fun i wr => ∃ a : Nat, a ≤ G.n ∧ i = .int .i64 a ∧ RC wk wr wk.heap.size D d nf ST E (dnF G (4 * a))) (fun i _ => G.n - (intOf i).toNat)
      case atStart => exact ⟨0, by omega, rfl, HRC.out.mono (fun c _ h => by obtain ⟨m, hm, _⟩ := h; omega)⟩
      case round =>
        clear HRC a2
        obtain ⟨a, ha', rfl, hR⟩ := hrel
        have HR := Lib.hid hR
        rcases Nat.lt_or_ge a G.n with han | han
        · obtain ⟨b, hta, htri⟩ := (HA.out wr hR.bel).2.2.2.2.2.2.1
          obtain ⟨rfl, -, -⟩ := hta (by omega)
          have cw : ∀ i, i < 4 → wr.cell? ⟨b, a * 4 + i, none⟩ = some (.int .i64 (fN G (4 * a + i) : Nat)) := fun i hi => by
            have h1 := htri (4 * a + i) (by omega)
            rw [show 4 * a + i = a * 4 + i by omega] at h1
            rw [show 4 * a + i = a * 4 + i by omega]; exact h1
          have e0 := cw 0 (by omega)
          have e1 := cw 1 (by omega)
          have e2 := cw 2 (by omega)
          have e3 := cw 3 (by omega)
          rw [Nat.add_zero, Nat.add_zero] at e0
          have a0 : 0 ≤ (a : Int) := by omega
          have an : (a : Int) < (G.n : Int) := by omega
          clear cw htri hta hR
          go_wp2
          refine wp_named fun W5 hW => ?_
          have h1 : RC wk W5 wk.heap.size D d nf ST E (dnF G (4 * a)) := by rw [hW]; exact HR.out.below ((Below.refl _ _).alloc (Nat.le_refl _) _)
          have H1 := Lib.hid h1
          clear h1 hW HR e0 e1 e2 e3
          go_loopw [66] (fun i wz => ∃ f : Nat, f ≤ 4 ∧ i = .int .i64 f ∧ RC wk wz wk.heap.size D d nf ST E (dnF G (4 * a + f))) (fun i _ => 4 - (intOf i).toNat)
          case atStart => exact ⟨0, by omega, rfl, H1.out⟩
          case round =>
            clear H1
            obtain ⟨f, hf, rfl, hR⟩ := hrel
            have HR := Lib.hid hR
            rcases Nat.lt_or_ge f 4 with hf4 | hf4
            · have hix := fun w => P84_int (fN G) (4 * a) f hf4 w
              have hlt := fN_lt HOK.out.1 (show 4 * a + f < 4 * G.n by omega)
              rw [← HOK.out.2.2.2.2.2.2.2] at hlt
              have hat := HA.out wr hR.bel
              have c0 := hat.1.c0
              have h54 := rfirst_walk HOK.out.1 a f han hf4 (.slice ga G.n gc) wr hat.2.2.2.2.1.1
              obtain ⟨c, hc⟩ : ∃ c, c = fN G (4 * a + f) := ⟨_, rfl⟩
              rw [← hc] at hix hlt
              have HC := Lib.hid hc
              have H54 := Lib.hid h54
              have f0 : 0 ≤ (f : Int) := by omega
              have f4 : (f : Int) < 4 := by omega
              clear hc h54 hat hR
              by_cases hF : isF G (4 * a + f)
              · have qF : decide (isF G (4 * a + f)) = true := by simpa using hF
                rw [qF] at H54
                have HF := Lib.hid hF
                clear qF hF
                go_wp2_with fail
                refine H54.out.mono ?_
                rintro e W6 ⟨rfl, hb6⟩
                have hR6 := HR.out.below hb6
                have p0 := hR6.p0
                have hmk := run_make_row' (P := Try.prog) 35 3 (.int .i64 0) 8 und35 info3 rfl .i64 .i64 ST (by omega) (by omega)
                have H6 := Lib.hid hR6
                clear hR6 hb6 HR H54 c0 hix
                go_wp2
                refine wp_named fun W7 hW => ?_
                obtain ⟨P, hP⟩ : ∃ P, P = W6.heap.size := ⟨_, rfl⟩
                rw [← hP]
                have h7 : Below W6.heap.size W6 W7 ∧ IntRow W7 P ST (fun x => if x < 0 then E c x else 0) := by
                  rw [hW, hP]
                  exact ⟨(Below.refl _ _).alloc (Nat.le_refl _) _, (World.rowIs_made W6 (.int .i64 0) ST 3).congr (fun i _ => by simp)⟩
                have H7 := Lib.hid h7
                have HP := Lib.hid hP
                clear h7 hW hP hmk p0
                go_loopw [80] (fun i wz => ∃ k : Nat, k ≤ ST ∧ i = .int .i64 k ∧ Below W6.heap.size W6 wz ∧ IntRow wz P ST (fun x => if x < k then E c x else 0)) (fun i _ => ST - (intOf i).toNat)
                case atStart => exact ⟨0, by omega, rfl, H7.out⟩
                case round =>
                  clear H7
                  obtain ⟨k, hk, rfl, hb, hrow⟩ := hrel
                  have HK := Lib.hid (And.intro hb hrow)
                  rcases Nat.lt_or_ge k ST with hks | hks
                  · have hbk := H6.out.bel.trans (hb.mono H6.out.bel.size)
                    have hat := HA.out wr hbk
                    obtain ⟨_, gb, go, _, hge, hga, hgc⟩ := hat.2.2.2.2.1.1
                    simp only [Value.slice.injEq, true_and] at hge
                    obtain ⟨hge1, hge2⟩ := hge
                    subst hge1 hge2
                    obtain ⟨rfl, hgN⟩ := hga (by omega)
                    have ct := (hgc (4 * a + f) (by omega)).1
                    rw [show go + 5 * (4 * a + f) = go + a * 20 + f * 5 by omega] at ct
                    have hcn := cmp_num HOK.out.1 HOK.out.2.1 HOK.out.2.2.1 HOK2.out.1 han hf4 HF.out (i := k) (by rw [← HOK2.out.2.2.2.2.2.2.1]; exact hks)
                    have hsp := mix_split (show k < s * t by rw [← HOK2.out.2.2.2.2.2.2.1]; exact hks)
                    obtain ⟨l, hl⟩ : ∃ l, l = k % s := ⟨_, rfl⟩
                    obtain ⟨u, hu⟩ : ∃ u, u = k / s := ⟨_, rfl⟩
                    obtain ⟨T, hT⟩ : ∃ T, T = G.tet (4 * a + f) := ⟨_, rfl⟩
                    rw [← hT] at ct
                    rw [← hl, ← hu, ← hT, ← HC.out, ← HE.out] at hcn
                    rw [← hl, ← hu] at hsp
                    have hs1 : (1 : Int) ≤ s := HOK2.out.2.2.2.2.2.2.2.1
                    have s0 : ((s : Int) == 0) = false := by simpa using (show (s : Int) ≠ 0 by omega)
                    have s0n : ¬ s = 0 := by omega
                    have q7 : (k : Int).tmod (s : Int) = (l : Int) := by rw [hl]; rfl
                    have q8 : (k : Int).tdiv (s : Int) = (u : Int) := by rw [hu]; rfl
                    have hub := hsp.2.1
                    have htb := HOK2.out.2.2.2.2.1.1
                    have q9 : IntKind.i64.wrap (l : Int) = (l : Int) := IntWalk.i64_in _ (by omega)
                    have q10 : IntKind.i64.wrap (u : Int) = (u : Int) := IntWalk.i64_in _ (by omega)
                    have c0 := hat.1.c0
                    have c1 := hat.1.c1
                    have xp := hrow.cell hks
                    have fp' := hrow.frozen k
                    have k0 : 0 ≤ (k : Int) := by omega
                    have ks : (k : Int) < (ST : Int) := by omega
                    have HCN := Lib.hid (And.intro hcn hsp)
                    have a0 : 0 ≤ (a : Int) := by omega
                    have an : (a : Int) < (G.n : Int) := by omega
                    have f0 : 0 ≤ (f : Int) := by omega
                    have f4 : (f : Int) < 4 := by omega
                    clear hcn hsp hl hu hT hga hgc hb hrow hbk hat
                    rcases Int.lt_or_le T 0 with hT0 | hT0
                    · have qT : decide (T < 0) = true := by simpa using hT0
                      have HX := Lib.hid (HCN.out.1.1 hT0)
                      go_wp2
                      refine wp_region_still_lit (by kernel_rfl) (by kernel_rfl) ?_
                      repeat (refine wpStill_step (fun K hK => ?_); go_simp; refine hK _ ?_; clear hK K)
                      refine wpStill_nil ?_
                      go_wp2
                      exact ⟨⟨k + 1, by omega, by simp, below_dr (HK.out.1.setCell (by show W6.heap.size ≤ P; rw [HP.out]; exact Nat.le_refl _) _), (rowIs_kept (HK.out.2.set k (.int .i64 (k : Int))) (grownBy_drew _ none) (by simp)).congr (fun i _ => by
                        by_cases e : i = k
                        · subst e; simp [HX.out]
                        · have : i < k + 1 ↔ i < k := by omega
                          simp [e, this])⟩, by simp [intOf]; omega⟩
                    · have qT : decide (T < 0) = false := by simp; omega
                      obtain ⟨l', u', b1, b2, b3, b4, b5⟩ := HCN.out.1.2 (by omega)
                      have hlb := HCN.out.2.1
                      obtain ⟨P1, hP1⟩ : ∃ P1 : Nat, P1 = l * G.n := ⟨_, rfl⟩
                      obtain ⟨P2, hP2⟩ : ∃ P2 : Nat, P2 = P1 + a := ⟨_, rfl⟩
                      obtain ⟨Y1, hY1⟩ : ∃ Y1 : Nat, Y1 = u' * s := ⟨_, rfl⟩
                      obtain ⟨Y, hY⟩ : ∃ Y : Nat, Y = Y1 + l' := ⟨_, rfl⟩
                      have hHn : H.n = s * G.n := by rw [HOK.out.2.2.1]; rfl
                      have hPb : P2 < H.n := by
                        have := mix_lt (u := l) (s := G.n) (t := s) (l := a) hlb han
                        rw [hHn, Nat.mul_comm s]; omega
                      have hPc : P2 ≤ 1000 := by have := HOK2.out.2.2.2.1.2; omega
                      have hYS : Y < ST := by rw [hY, hY1, HOK2.out.2.2.2.2.2.2.1]; exact mix_lt b2 b1
                      have w1 : IntKind.i64.wrap ((l : Int) * (G.n : Int)) = (P1 : Int) := by rw [hP1, IntWalk.i64_in _ (by rw [← Int.natCast_mul, ← hP1]; omega)]; simp
                      have w2 : IntKind.i64.wrap ((P1 : Int) + (a : Int)) = (P2 : Int) := by rw [IntWalk.i64_in _ (by omega)]; omega
                      have w3 : IntKind.i64.wrap ((u' : Int) * (s : Int)) = (Y1 : Int) := by rw [hY1, IntWalk.i64_in _ (by rw [← Int.natCast_mul, ← hY1]; omega)]; simp
                      have w4 : IntKind.i64.wrap ((Y1 : Int) + (l' : Int)) = (Y : Int) := by rw [IntWalk.i64_in _ (by omega)]; omega
                      have hEk : E c k = (Y : Int) := by rw [b5, hY, hY1]
                      have hnfe := HOK.out.2.2.2.2.2.2.2
                      have hnhe := HOK2.out.2.2.2.2.2.1
                      have hl1 : ∀ m, m < nF G → len m = s := fun m hm => by have := (permB_range (HOK.out.2.1.perms m hm)).1; omega
                      have hl2 : ∀ m, m < nF H → len2 m = t := fun m hm => by have := (permB_range (HOK2.out.1.perms m hm)).1; omega
                      rw [show l * G.n + a = P2 by omega] at b4
                      have later := fun W (hb : Below wr.heap.size wr W) =>
                        have hv : Below W6.heap.size W6 W := HK.out.1.trans (hb.mono HK.out.1.size)
                        have hg := below_grown hb (Nat.le_refl _) none
                        And.intro (HA.out W (H6.out.bel.trans (hv.mono H6.out.bel.size))) (And.intro hv (And.intro (hg.cell xp (by simp)) (And.intro ((hg.frozen_far ⟨P, k, none⟩ (lt_of_cell xp) (by simp)).trans fp') (rowIs_kept HK.out.2 hg (by simp)))))
                      have HL := Lib.hid later
                      have calls := fun W (hb : Below wr.heap.size wr W) =>
                        have h := (HL.out W hb).1
                        And.intro
                          (show Calls Try.prog 55 #[.agg #[.slice ha H.n hc], .agg #[.slice va' H.n vc', .slice ea' H.n ec', .slice ta' H.n tc', .slice da' dn' dc', .slice ra' rn' rc', .slice la' ln' lc'], .agg #[.int .i64 (t : Int), .slice pa2 nh pc2], .int .i64 (P2 : Int), .int .i64 (f : Int), .int .i64 (u : Int)] W fun e w' => e = .returned (.int .i64 (u' : Int)) ∧ Below W.heap.size W w' by
                            have h1 := rcross_walk HOK.out.2.2.2.1 HOK2.out.2.2.1 HOK2.out.2.2.2.2.1.1 P2 f u hPb hf4 hub (.slice ha H.n hc) (.agg #[.slice va' H.n vc', .slice ea' H.n ec', .slice ta' H.n tc', .slice da' dn' dc', .slice ra' rn' rc', .slice la' ln' lc']) (.slice pa2 (nF H) pc2) W h.2.2.2.2.2.1 h.2.2.2.2.2.2.2.skv (h.2.2.2.2.1.2.2.LLs.lens hl2) t
                            rw [← hnhe] at h1
                            rw [show crF H fp2 (fun k => invP (fp2 k) ((t : Int)).toNat) P2 f u = (u' : Int) from b4] at h1
                            exact h1)
                          (show Calls Try.prog 55 #[.agg #[.slice (some ⟨gb, go, none⟩) G.n gc], .agg #[.slice va G.n vc, .slice ea G.n ec, .slice (some ⟨b, 0, none⟩) G.n tc, .slice da dn dc, .slice ra rn rc, .slice la ln lc], .agg #[.int .i64 (s : Int), .slice pa nf pc], .int .i64 (a : Int), .int .i64 (f : Int), .int .i64 (l : Int)] W fun e w' => e = .returned (.int .i64 (l' : Int)) ∧ Below W.heap.size W w' by
                            have h1 := rcross_walk HOK.out.1 HOK.out.2.2.2.2.2.1 HOK.out.2.2.2.2.2.2.1.1 a f l han hf4 hlb (.slice (some ⟨gb, go, none⟩) G.n gc) (.agg #[.slice va G.n vc, .slice ea G.n ec, .slice (some ⟨b, 0, none⟩) G.n tc, .slice da dn dc, .slice ra rn rc, .slice la ln lc]) (.slice pa (nF G) pc) W h.2.2.2.2.1.1 h.2.2.2.2.2.2.1.skv (h.2.2.2.2.1.2.1.LLs.lens hl1) s
                            rw [← hnfe] at h1
                            rw [show crF G fp (fun k => invP (fp k) ((s : Int)).toNat) a f l = (l' : Int) from b3] at h1
                            exact h1)
                      have HCL := Lib.hid calls
                      have cells := fun W (hv : Below W6.heap.size W6 W) =>
                        have h := HA.out W (H6.out.bel.trans (hv.mono H6.out.bel.size))
                        (⟨h.2.1, h.2.2.2.1.d0, h.2.2.2.1.d1, h.2.2.2.1.d2, h.2.2.2.1.d3, h.2.2.2.1.d4, h.2.2.2.1.d5, h.1.c3, h.1.c4, h.1.c0, h.1.c1, h.1.c2, h.2.2.1.d0, h.2.2.1.d1, h.2.2.1.d2, h.2.2.1.d3, h.2.2.1.d4, h.2.2.1.d5⟩ :
                          W.cell? ⟨B, 0, none⟩ = some (.slice ha H.n hc) ∧ W.cell? ⟨D2, 0, none⟩ = some (.slice va' H.n vc') ∧ W.cell? ⟨D2, 1, none⟩ = some (.slice ea' H.n ec') ∧ W.cell? ⟨D2, 2, none⟩ = some (.slice ta' H.n tc') ∧ W.cell? ⟨D2, 3, none⟩ = some (.slice da' dn' dc') ∧ W.cell? ⟨D2, 4, none⟩ = some (.slice ra' rn' rc') ∧ W.cell? ⟨D2, 5, none⟩ = some (.slice la' ln' lc') ∧ W.cell? ⟨N + 1 + 1, 0, none⟩ = some (.int .i64 (t : Int)) ∧ W.cell? ⟨N + 1 + 1, 1, none⟩ = some (.slice pa2 nh pc2) ∧ W.cell? ⟨N, 0, none⟩ = some (.slice (some ⟨gb, go, none⟩) G.n gc) ∧ W.cell? ⟨N + 1, 0, none⟩ = some (.int .i64 (s : Int)) ∧ W.cell? ⟨N + 1, 1, none⟩ = some (.slice pa nf pc) ∧ W.cell? ⟨D1, 0, none⟩ = some (.slice va G.n vc) ∧ W.cell? ⟨D1, 1, none⟩ = some (.slice ea G.n ec) ∧ W.cell? ⟨D1, 2, none⟩ = some (.slice (some ⟨b, 0, none⟩) G.n tc) ∧ W.cell? ⟨D1, 3, none⟩ = some (.slice da dn dc) ∧ W.cell? ⟨D1, 4, none⟩ = some (.slice ra rn rc) ∧ W.cell? ⟨D1, 5, none⟩ = some (.slice la ln lc))
                      have HSC := Lib.hid cells
                      have hbw6 := HK.out.1
                      have hP6 : W6.heap.size ≤ P := by rw [HP.out]; exact Nat.le_refl _
                      have HEK := Lib.hid hEk
                      clear b1 b2 b3 b4 b5 hP1 hP2 hY1 hY hHn hPb hPc hYS hEk hnfe hnhe hl1 hl2 later calls cells hlb hub htb
                      go_wp2
                      refine wp_region_still_lit (by kernel_rfl) (by kernel_rfl) ?_
                      repeat (refine wpStill_step (fun K hK => ?_); go_simp; refine hK _ ?_; clear hK K)
                      refine wpStill_nil ?_
                      go_wp2
                      go_region_held3 (fun w' => w'.cell? ⟨B, 0, none⟩ = some (.slice ha H.n hc) ∧ w'.cell? ⟨D2, 0, none⟩ = some (.slice va' H.n vc') ∧ w'.cell? ⟨D2, 1, none⟩ = some (.slice ea' H.n ec') ∧ w'.cell? ⟨D2, 2, none⟩ = some (.slice ta' H.n tc') ∧ w'.cell? ⟨D2, 3, none⟩ = some (.slice da' dn' dc') ∧ w'.cell? ⟨D2, 4, none⟩ = some (.slice ra' rn' rc') ∧ w'.cell? ⟨D2, 5, none⟩ = some (.slice la' ln' lc') ∧ w'.cell? ⟨N + 1 + 1, 0, none⟩ = some (.int .i64 (t : Int)) ∧ w'.cell? ⟨N + 1 + 1, 1, none⟩ = some (.slice pa2 nh pc2) ∧ w'.cell? ⟨N, 0, none⟩ = some (.slice (some ⟨gb, go, none⟩) G.n gc) ∧ w'.cell? ⟨N + 1, 0, none⟩ = some (.int .i64 (s : Int)) ∧ w'.cell? ⟨N + 1, 1, none⟩ = some (.slice pa nf pc) ∧ w'.cell? ⟨D1, 0, none⟩ = some (.slice va G.n vc) ∧ w'.cell? ⟨D1, 1, none⟩ = some (.slice ea G.n ec) ∧ w'.cell? ⟨D1, 2, none⟩ = some (.slice (some ⟨b, 0, none⟩) G.n tc) ∧ w'.cell? ⟨D1, 3, none⟩ = some (.slice da dn dc) ∧ w'.cell? ⟨D1, 4, none⟩ = some (.slice ra rn rc) ∧ w'.cell? ⟨D1, 5, none⟩ = some (.slice la ln lc))
                        (with_reducible exact HSC.out _ (by (repeat' (first | assumption | exact Below.refl _ _ | refine below_then ?_ (by assumption) | refine below_al ?_ _ | refine below_dr ?_ | refine below_sc ?_ (by simp <;> omega) _))))
                        (first
                          | (go_at_call 55; (with_reducible refine (HCL.out _ (by (repeat' (first | assumption | exact Below.refl _ _ | refine below_then ?_ (by assumption) | refine below_al ?_ _ | refine below_dr ?_ | refine below_sc ?_ (by simp <;> omega) _)))).1.mono ?_); rintro e w7 ⟨rfl, hb7⟩; have x7 := (HL.out w7 (by with_reducible (repeat' (first | assumption | exact Below.refl _ _ | refine below_then ?_ (by assumption) | refine below_al ?_ _ | refine below_dr ?_ | refine below_sc ?_ (by simp <;> omega) _)))).2.2.1; have z7 := (HL.out w7 (by with_reducible (repeat' (first | assumption | exact Below.refl _ _ | refine below_then ?_ (by assumption) | refine below_al ?_ _ | refine below_dr ?_ | refine below_sc ?_ (by simp <;> omega) _)))).2.2.2.1)
                          | (go_at_call 55; (with_reducible refine (HCL.out _ (by (repeat' (first | assumption | exact Below.refl _ _ | refine below_then ?_ (by assumption) | refine below_al ?_ _ | refine below_dr ?_ | refine below_sc ?_ (by simp <;> omega) _)))).2.mono ?_); rintro e w8 ⟨rfl, hb8⟩; have x8 := (HL.out w8 (by with_reducible (repeat' (first | assumption | exact Below.refl _ _ | refine below_then ?_ (by assumption) | refine below_al ?_ _ | refine below_dr ?_ | refine below_sc ?_ (by simp <;> omega) _)))).2.2.1; have z8 := (HL.out w8 (by with_reducible (repeat' (first | assumption | exact Below.refl _ _ | refine below_then ?_ (by assumption) | refine below_al ?_ _ | refine below_dr ?_ | refine below_sc ?_ (by simp <;> omega) _)))).2.2.2.1))
                      all_goals go_wp2
                      all_goals exact ⟨⟨k + 1, by omega, by simp, (HL.out _ (by with_reducible (repeat' (first | assumption | exact Below.refl _ _ | refine below_then ?_ (by assumption) | refine below_al ?_ _ | refine below_dr ?_ | refine below_sc ?_ (by simp <;> omega) _)))).2.1.setCell (by show W6.heap.size ≤ P; rw [HP.out]; exact Nat.le_refl _) _, ((HL.out _ (by with_reducible (repeat' (first | assumption | exact Below.refl _ _ | refine below_then ?_ (by assumption) | refine below_al ?_ _ | refine below_dr ?_ | refine below_sc ?_ (by simp <;> omega) _)))).2.2.2.2.set k (.int .i64 (Y : Int))).congr (fun i _ => by
                        by_cases e : i = k
                        · subst e; simp [HEK.out]
                        · have : i < k + 1 ↔ i < k := by omega
                          simp [e, this])⟩, by simp [intOf]; omega⟩
                  · obtain rfl : k = ST := by omega
                    have hR8 := H6.out.below hb
                    have p1 := hR8.p1
                    obtain ⟨xa, xl, xk, hx⟩ := hR8.cell c hlt
                    have hfr := hR8.fr c
                    have c0' : 0 ≤ (c : Int) := by omega
                    have cn : (c : Int) < (nf : Int) := by omega
                    clear hb hrow hR8
                    go_wp2
                    exact ⟨⟨f + 1, by omega, by simp, (H6.out.put HK.out.1 (by rw [HP.out]; exact Nat.le_refl _) (HK.out.2.congr (fun i hi => by simp [hi]))).mono (fun x _ h => by
                      rcases dnF_succ h with ⟨_, q⟩ | q
                      · exact .inl (by rw [HC.out]; exact q)
                      · exact .inr q)⟩, by simp [intOf]; omega⟩
              · have qF : decide (isF G (4 * a + f)) = false := by simpa using hF
                rw [qF] at H54
                have HF := Lib.hid hF
                clear qF hF
                go_wp2_with fail
                refine H54.out.mono ?_
                rintro e W6 ⟨rfl, hb6⟩
                have H6 := Lib.hid hb6
                clear hb6 c0 hix
                go_wp2
                exact ⟨⟨f + 1, by omega, by simp, (HR.out.below H6.out).mono (fun x _ h => by
                  rcases dnF_succ h with ⟨q, _⟩ | q
                  · exact absurd q HF.out
                  · exact q)⟩, by simp [intOf]; omega⟩
            · obtain rfl : f = 4 := by omega
              clear hR
              go_wp2
              exact ⟨⟨a + 1, by omega, by simp, by rw [show 4 * (a + 1) = 4 * a + 4 by omega]; exact HR.out⟩, by simp [intOf]; omega⟩
        · obtain rfl : a = G.n := by omega
          have p0 := hR.p0
          have p1 := hR.p1
          have hat := HA.out wr hR.bel
          have r0 := hat.1.r0
          have r1 := hat.1.r1
          have z0 := hat.1.f0
          have z1 := hat.1.f1
          have HB := Lib.hid hat.1.bel
          clear hR hat
          go_wp2
          have hcm : cmpI G s (nF G) len fp t (nF H) len2 fp2 = 0 := by
            unfold cmpI; rw [if_pos HZ.out, ← HOK.out.2.2.1, if_pos HOK2.out.2.1, show ((s : Int)).toNat = s from rfl, show ((t : Int)).toNat = t from rfl, ← HOK2.out.2.2.2.2.2.2.1, if_neg (by omega)]
          refine bodyPost_ret (v := .tuple #[.agg #[.int .i64 (ST : Int), .slice (some ⟨d, 0, none⟩) nf nf], .int .i64 0]) (by simp [results, Try.results18, go_sem, *]) rfl ⟨?_, (ST : Int), _, by rw [hcm], .inr ⟨hcm, by rw [HOK2.out.2.2.2.2.2.2.1]; rfl, ?_⟩⟩
          · rw [← HN.out]; exact (HB.out.setCell (by show N ≤ N + 1 + 1 + 1; omega) _).setCell (by show N ≤ N + 1 + 1 + 1; omega) _
          · rw [show ((s : Int)).toNat = s from rfl, show ((t : Int)).toNat = t from rfl, ← HOK2.out.2.2.2.2.2.2.1, ← HOK.out.2.2.2.2.2.2.2, ← HE.out]
            have hll := HR.out.LLn (fun c hc => dnF_all HOK.out.1 (by rw [← HOK.out.2.2.2.2.2.2.2]; exact hc))
            have hl1 := hll.kept (grownBy_setCell _ (N + 1 + 1 + 1) 0 (.int .i64 (ST : Int))) (fun r e => by cases e; omega)
            have hl2 := hl1.kept (grownBy_setCell _ (N + 1 + 1 + 1) 1 (.slice (some ⟨d, 0, none⟩) nf nf)) (fun r e => by cases e; omega)
            exact hl2.LLs.mono (by simp)
end
end Go.Proofs.Ytlckpgahijlmoaa
