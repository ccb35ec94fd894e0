/- The law CoverStays: its walk. -/
import Derived.Test.YtlckpgahijlmoaaQ52
namespace Go.Proofs.Ytlckpgahijlmoaa
open Go.RowKit Go.Shelf Go.Maps

section
variable (G : Gl) (v : Value) (sh : Int) (pv : Value) (np : Nat) (len : Nat → Nat) (fp : Nat → Nat → Int) (sh2 : Int) (pv2 : Value) (np2 : Nat) (len2 : Nat → Nat) (fp2 : Nat → Nat → Int) (s0 : Int) (iv : Value) (ni : Nat) (li : Nat → Nat) (fi : Nat → Nat → Int)
  (w : World) (hG : GlAt w.heap.size w v G) (hpv : LLs w.heap.size w pv np len fp) (hlen : ∀ k, k < np → len k ≤ 17592186044416) (hpv2 : LLs w.heap.size w pv2 np2 len2 fp2) (hlen2 : ∀ k, k < np2 → len2 k ≤ 17592186044416) (hiv : LLs w.heap.size w iv ni li fi) (hli : ∀ k, k < ni → li k ≤ 17592186044416)
include hG hpv hlen hpv2 hlen2 hiv hli
set_option maxRecDepth 100000 in
set_option maxHeartbeats 4000000 in
theorem stays_walk : Calls Try.prog 7 #[.agg #[v], .agg #[.int .i64 sh, pv], .agg #[.int .i64 sh2, pv2], .int .i64 s0, iv] w fun e w' => e = .returned (.bool true) ∧ Below w.heap.size w w' := by
  have HG := Lib.hid (And.intro hG (And.intro hpv (And.intro hlen (And.intro hpv2 (And.intro hlen2 (And.intro hiv hli))))))
  obtain ⟨a, cap, rfl⟩ : ∃ a cap, v = .slice a G.n cap := by obtain ⟨a, _, _, cap, e, _⟩ := hG; exact ⟨a, cap, e⟩
  obtain ⟨pa, pc, rfl⟩ : ∃ a cap, pv = .slice a np cap := by obtain ⟨a, _, _, cap, e, _⟩ := hpv; exact ⟨a, cap, e⟩
  obtain ⟨pa2, pc2, rfl⟩ : ∃ a cap, pv2 = .slice a np2 cap := by obtain ⟨a, _, _, cap, e, _⟩ := hpv2; exact ⟨a, cap, e⟩
  obtain ⟨ia, ic, rfl⟩ : ∃ a cap, iv = .slice a ni cap := by obtain ⟨a, _, _, cap, e, _⟩ := hiv; exact ⟨a, cap, e⟩
  clear hG hpv hlen hpv2 hlen2 hiv hli
  have HSC := Lib.hid (fun b u x y z => @stays_calls w G a cap sh pa np pc sh2 pa2 np2 pc2 ia ni ic s0 len len2 li fp fp2 fi b u x y z)
  generalize hN : w.heap.size = N at *
  go_enter Try.func7, Try.ntmps7
  have hb0 : ∀ o1 o2 o3, Below w.heap.size w (((w.alloc o1).alloc o2).alloc o3) := fun o1 o2 o3 => by (repeat' (first | assumption | exact Below.refl _ _ | refine below_then ?_ (by assumption) | refine below_al ?_ _ | refine below_dr ?_ | refine below_sc ?_ (by simp <;> omega) _))
  rw [hN] at hb0
  have HB0 := Lib.hid hb0
  clear hb0
  rcases Nat.lt_or_ge 12 G.n with g0 | g0
  · have q0 : decide ((12 : Int) < (G.n : Int)) = true := by simp; omega
    go_wp2_with ((go_at_call 9; (with_reducible refine (sane_walk _).mono ?_); rintro e w4 ⟨rfl, hb4⟩; have HB4 := Lib.hid ((HB0.out _ _ _).trans (hb4.mono (by simp; omega))); clear hb4))
    go_ret
    exact ⟨rfl, HB4.out⟩
  have q0 : decide ((12 : Int) < (G.n : Int)) = false := by simp; omega
  rcases Nat.lt_or_ge 100 np with g1 | g1
  · have q1 : decide ((100 : Int) < (np : Int)) = true := by simp; omega
    go_wp2_with ((go_at_call 9; (with_reducible refine (sane_walk _).mono ?_); rintro e w4 ⟨rfl, hb4⟩; have HB4 := Lib.hid ((HB0.out _ _ _).trans (hb4.mono (by simp; omega))); clear hb4))
    go_ret
    exact ⟨rfl, HB4.out⟩
  have q1 : decide ((100 : Int) < (np : Int)) = false := by simp; omega
  rcases Nat.lt_or_ge 400 np2 with g2 | g2
  · have q2 : decide ((400 : Int) < (np2 : Int)) = true := by simp; omega
    go_wp2_with ((go_at_call 9; (with_reducible refine (sane_walk _).mono ?_); rintro e w4 ⟨rfl, hb4⟩; have HB4 := Lib.hid ((HB0.out _ _ _).trans (hb4.mono (by simp; omega))); clear hb4))
    go_ret
    exact ⟨rfl, HB4.out⟩
  have q2 : decide ((400 : Int) < (np2 : Int)) = false := by simp; omega
  rcases Nat.lt_or_ge 100 ni with g3 | g3
  · have q3 : decide ((100 : Int) < (ni : Int)) = true := by simp; omega
    go_wp2_with ((go_at_call 9; (with_reducible refine (sane_walk _).mono ?_); rintro e w4 ⟨rfl, hb4⟩; have HB4 := Lib.hid ((HB0.out _ _ _).trans (hb4.mono (by simp; omega))); clear hb4))
    go_ret
    exact ⟨rfl, HB4.out⟩
  have q3 : decide ((100 : Int) < (ni : Int)) = false := by simp; omega
  go_wp2
  refine wp_named fun W0 hW => ?_
  have h0 : Below N w W0 ∧ W0.cell? ⟨N, 0, none⟩ = some (.slice a G.n cap) ∧ W0.cell? ⟨N + 1, 0, none⟩ = some (.int .i64 sh) ∧ W0.cell? ⟨N + 1, 1, none⟩ = some (.slice pa np pc) ∧ W0.cell? ⟨N + 1 + 1, 0, none⟩ = some (.int .i64 sh2) ∧ W0.cell? ⟨N + 1 + 1, 1, none⟩ = some (.slice pa2 np2 pc2) ∧ W0.heap.size = N + 3 := by
    rw [hW]; exact ⟨HB0.out _ _ _, by subst hN; simp [go_sem], by subst hN; simp [go_sem], by subst hN; simp [go_sem], by subst hN; simp [go_sem], by subst hN; simp [go_sem], by subst hN; simp⟩
  clear hW
  obtain ⟨hb, y0, y10, y11, y20, y21, hz0⟩ := h0
  have HSK : ∀ W, Below W0.heap.size W0 W → W.cell? ⟨N, 0, none⟩ = some (.slice a G.n cap) ∧ W.cell? ⟨N + 1, 1, none⟩ = some (.slice pa np pc) ∧ W.cell? ⟨N + 1 + 1, 1, none⟩ = some (.slice pa2 np2 pc2) := fun W h =>
    ⟨(h.cell (p := ⟨N, 0, none⟩) (lt_of_cell y0)).trans y0, (h.cell (p := ⟨N + 1, 1, none⟩) (lt_of_cell y11)).trans y11, (h.cell (p := ⟨N + 1 + 1, 1, none⟩) (lt_of_cell y21)).trans y21⟩
  have c32 : ∀ W, Below W0.heap.size W0 W → Calls Try.prog 32 #[.agg #[.slice a G.n cap]] W fun e w' => ∃ ga gc, e = .returned (.agg #[.slice ga G.n gc]) ∧ (∀ D W', Kp D w' W' → (D < W.heap.size ∨ w'.heap.size ≤ D) → GlAt W'.heap.size W' (.slice ga G.n gc) G) ∧ Below W.heap.size W w' ∧ Below W0.heap.size W0 w' := fun W h =>
    (CopyGluing_walk G (by omega) W _ ((HG.out.1.below (hb.trans (h.mono (by omega)))).mono (by have := h.size; omega))).mono (by
      rintro e w' ⟨u, h1, h2, h3, h4⟩
      obtain ⟨ga, gc, rfl⟩ : ∃ ga gc, u = .slice ga G.n gc := by obtain ⟨a, _, _, cap, e, _⟩ := h2; exact ⟨a, cap, e⟩
      exact ⟨ga, gc, h1, fun D W' hk hD => h2.kp h3 hD (Nat.le_refl _) hk, h4, h.trans (h4.mono h.size)⟩)
  have c33 : ∀ W, Below W0.heap.size W0 W → (Calls Try.prog 33 #[.slice pa np pc] W fun e w' => ∃ u, e = .returned u ∧ (∀ D W', Kp D w' W' → (D < W.heap.size ∨ w'.heap.size ≤ D) → LLs W'.heap.size W' u np len fp) ∧ Below W.heap.size W w' ∧ Below W0.heap.size W0 w') ∧
      (Calls Try.prog 33 #[.slice pa2 np2 pc2] W fun e w' => ∃ u, e = .returned u ∧ (∀ D W', Kp D w' W' → (D < W.heap.size ∨ w'.heap.size ≤ D) → LLs W'.heap.size W' u np2 len2 fp2) ∧ Below W.heap.size W w' ∧ Below W0.heap.size W0 w') ∧
      (Calls Try.prog 33 #[.slice ia ni ic] W fun e w' => ∃ u, e = .returned u ∧ (∀ D W', Kp D w' W' → (D < W.heap.size ∨ w'.heap.size ≤ D) → LLs W'.heap.size W' u ni li fi) ∧ Below W.heap.size W w' ∧ Below W0.heap.size W0 w') := fun W h => by
    have hbW := hb.trans (h.mono (by omega))
    have hsW : N ≤ W.heap.size := by have := h.size; omega
    refine ⟨(CopyInts_walk np len fp (by omega) HG.out.2.2.1 W _ ((HG.out.2.1.below hbW).mono hsW)).mono ?_, (CopyInts_walk np2 len2 fp2 (by omega) HG.out.2.2.2.2.1 W _ ((HG.out.2.2.2.1.below hbW).mono hsW)).mono ?_, (CopyInts_walk ni li fi (by omega) HG.out.2.2.2.2.2.2 W _ ((HG.out.2.2.2.2.2.1.below hbW).mono hsW)).mono ?_⟩ <;>
      (rintro e w' ⟨u, xs, h1, h2, h4⟩; exact ⟨u, h1, fun D W' hk hD => LLn_kp h2.LLn hD (Nat.le_refl _) hk, h4, h.trans (h4.mono h.size)⟩)
  have fin : ∀ W D u x y z, Below W0.heap.size W0 W → W.cell? ⟨D, 0, none⟩ = some u → GlAt W.heap.size W u G → LLs W.heap.size W x np len fp → LLs W.heap.size W y np2 len2 fp2 → LLs W.heap.size W z ni li fi → KP w G a cap sh pa np pc sh2 pa2 np2 pc2 ni len len2 li fp fp2 fi D u x y z W := fun W D u x y z h h1 h2 h3 h4 h5 => by
    have k := fun p v (hc : W0.cell? p = some v) => (h.cell (p := p) (lt_of_cell hc)).trans hc
    subst hN
    exact ⟨hb.trans (h.mono (by omega)), k _ _ y0, k _ _ y10, k _ _ y11, k _ _ y20, k _ _ y21, h1, h2, h3, h4, h5⟩
  have CC := Lib.hid (And.intro HSK (And.intro c32 (And.intro c33 fin)))
  have hz3 : N + 3 ≤ W0.heap.size := by omega
  clear HSK c32 c33 fin hb y0 y10 y11 y20 y21 hz0
  go_cut [11, 12, 13, 14] from 37 to 46 (fun p x y z wc => ∃ b u, p = .pointer (some ⟨b, 0, none⟩) ∧ KP w G a cap sh pa np pc sh2 pa2 np2 pc2 ni len len2 li fp fp2 fi b u x y z wc)
  case first =>
    have kn : ∀ W : World, (W.alloc (.cells #[.slice none 0 0] 24)).cell? ⟨W.heap.size, 0, none⟩ = some (.slice none 0 0) := fun W => World.cell?_alloc_at _ _ _ _ rfl
    have zn : ∀ W : World, (W.alloc (.cells #[.slice none 0 0] 24)).frozen? ⟨W.heap.size, 0, none⟩ = false := fun W => World.frozen?_alloc_at _ _ _ _ rfl
    have kn0 : (W0.alloc (.cells #[.slice none 0 0] 24)).drew.cell? ⟨W0.heap.size, 0, none⟩ = some (.slice none 0 0) := kn W0
    have zn0 : (W0.alloc (.cells #[.slice none 0 0] 24)).drew.frozen? ⟨W0.heap.size, 0, none⟩ = false := zn W0
    go_region_held3 (fun w' => w'.cell? ⟨N, 0, none⟩ = some (.slice a G.n cap) ∧ w'.cell? ⟨N + 1, 1, none⟩ = some (.slice pa np pc) ∧ w'.cell? ⟨N + 1 + 1, 1, none⟩ = some (.slice pa2 np2 pc2))
      (exact CC.out.1 _ (by (repeat' (first | assumption | exact Below.refl _ _ | refine below_then ?_ (by assumption) | refine below_al ?_ _ | refine below_dr ?_ | refine below_sc ?_ (by simp <;> omega) _))))
      (first
        | (go_at_call 32; (with_reducible refine (CC.out.2.1 _ (by (repeat' (first | assumption | exact Below.refl _ _ | refine below_then ?_ (by assumption) | refine below_al ?_ _ | refine below_dr ?_ | refine below_sc ?_ (by simp <;> omega) _)))).mono ?_); rintro e w1 ⟨ga, gc, rfl, hg1, hbb1, hbz1⟩; obtain ⟨hc1, hf1⟩ := bcell hbb1; have hs1 := hbb1.size; (try simp only [World.size_alloc, World.size_drew, World.size_setCell] at hs1); (try (have z01 : W0.heap.size < w1.heap.size := by omega)); (try (have z21 : w2.heap.size < w1.heap.size := by omega)); (try (have z31 : w3.heap.size < w1.heap.size := by omega)); (try (have z41 : w4.heap.size < w1.heap.size := by omega)); have HU1 := Lib.hid (And.intro hg1 hbb1); clear hg1 hbb1)
        | (go_at_call 33; (with_reducible refine (CC.out.2.2.1 _ (by (repeat' (first | assumption | exact Below.refl _ _ | refine below_then ?_ (by assumption) | refine below_al ?_ _ | refine below_dr ?_ | refine below_sc ?_ (by simp <;> omega) _)))).1.mono ?_); rintro e w2 ⟨u2, rfl, hg2, hbb2, hbz2⟩; obtain ⟨hc2, hf2⟩ := bcell hbb2; have hs2 := hbb2.size; (try simp only [World.size_alloc, World.size_drew, World.size_setCell] at hs2); (try (have z02 : W0.heap.size < w2.heap.size := by omega)); (try (have z12 : w1.heap.size < w2.heap.size := by omega)); (try (have z32 : w3.heap.size < w2.heap.size := by omega)); (try (have z42 : w4.heap.size < w2.heap.size := by omega)); have HU2 := Lib.hid (And.intro hg2 hbb2); clear hg2 hbb2)
        | (go_at_call 33; (with_reducible refine (CC.out.2.2.1 _ (by (repeat' (first | assumption | exact Below.refl _ _ | refine below_then ?_ (by assumption) | refine below_al ?_ _ | refine below_dr ?_ | refine below_sc ?_ (by simp <;> omega) _)))).2.1.mono ?_); rintro e w3 ⟨u3, rfl, hg3, hbb3, hbz3⟩; obtain ⟨hc3, hf3⟩ := bcell hbb3; have hs3 := hbb3.size; (try simp only [World.size_alloc, World.size_drew, World.size_setCell] at hs3); (try (have z03 : W0.heap.size < w3.heap.size := by omega)); (try (have z13 : w1.heap.size < w3.heap.size := by omega)); (try (have z23 : w2.heap.size < w3.heap.size := by omega)); (try (have z43 : w4.heap.size < w3.heap.size := by omega)); have HU3 := Lib.hid (And.intro hg3 hbb3); clear hg3 hbb3)
        | (go_at_call 33; (with_reducible refine (CC.out.2.2.1 _ (by (repeat' (first | assumption | exact Below.refl _ _ | refine below_then ?_ (by assumption) | refine below_al ?_ _ | refine below_dr ?_ | refine below_sc ?_ (by simp <;> omega) _)))).2.2.mono ?_); rintro e w4 ⟨u4, rfl, hg4, hbb4, hbz4⟩; obtain ⟨hc4, hf4⟩ := bcell hbb4; have hs4 := hbb4.size; (try simp only [World.size_alloc, World.size_drew, World.size_setCell] at hs4); (try (have z04 : W0.heap.size < w4.heap.size := by omega)); (try (have z14 : w1.heap.size < w4.heap.size := by omega)); (try (have z24 : w2.heap.size < w4.heap.size := by omega)); (try (have z34 : w3.heap.size < w4.heap.size := by omega)); have HU4 := Lib.hid (And.intro hg4 hbb4); clear hg4 hbb4))
    all_goals go_wp2_with fail
    all_goals go_meet
    · refine ⟨_, _, rfl, CC.out.2.2.2 _ _ _ _ _ _ (by (repeat' (first | assumption | exact Below.refl _ _ | refine below_then ?_ (by assumption) | refine below_al ?_ _ | refine below_dr ?_ | refine below_sc ?_ (by simp <;> omega) _))) (by simp [go_sem, *]) (HU1.out.1 w4.heap.size _ (by with_reducible (repeat (first | exact Kp.refl _ _ | refine Kp.below ?_ HU4.out.2 | refine Kp.below ?_ HU3.out.2 | refine Kp.below ?_ HU2.out.2 | refine Kp.below ?_ HU1.out.2 | refine Kp.dr ?_ | refine Kp.al ?_ _ | refine Kp.sc ?_ _ _))) (by first | (left; simp; done) | (left; simp; omega) | (left; omega) | (right; simp; done) | (right; simp; omega) | (right; omega))) (HU2.out.1 w4.heap.size _ (by with_reducible (repeat (first | exact Kp.refl _ _ | refine Kp.below ?_ HU4.out.2 | refine Kp.below ?_ HU3.out.2 | refine Kp.below ?_ HU2.out.2 | refine Kp.below ?_ HU1.out.2 | refine Kp.dr ?_ | refine Kp.al ?_ _ | refine Kp.sc ?_ _ _))) (by first | (left; simp; done) | (left; simp; omega) | (left; omega) | (right; simp; done) | (right; simp; omega) | (right; omega))) (HU3.out.1 w4.heap.size _ (by with_reducible (repeat (first | exact Kp.refl _ _ | refine Kp.below ?_ HU4.out.2 | refine Kp.below ?_ HU3.out.2 | refine Kp.below ?_ HU2.out.2 | refine Kp.below ?_ HU1.out.2 | refine Kp.dr ?_ | refine Kp.al ?_ _ | refine Kp.sc ?_ _ _))) (by first | (left; simp; done) | (left; simp; omega) | (left; omega) | (right; simp; done) | (right; simp; omega) | (right; omega))) (HU4.out.1 w4.heap.size _ (by with_reducible (repeat (first | exact Kp.refl _ _ | refine Kp.below ?_ HU4.out.2 | refine Kp.below ?_ HU3.out.2 | refine Kp.below ?_ HU2.out.2 | refine Kp.below ?_ HU1.out.2 | refine Kp.dr ?_ | refine Kp.al ?_ _ | refine Kp.sc ?_ _ _))) (by first | (left; simp; done) | (left; simp; omega) | (left; omega) | (right; simp; done) | (right; simp; omega) | (right; omega)))⟩
    all_goals refine ⟨_, _, rfl, CC.out.2.2.2 _ _ _ _ _ _ (by (repeat' (first | assumption | exact Below.refl _ _ | refine below_then ?_ (by assumption) | refine below_al ?_ _ | refine below_dr ?_ | refine below_sc ?_ (by simp <;> omega) _))) (by simp [go_sem, *]) (HU1.out.1 _ _ (by with_reducible (repeat (first | exact Kp.refl _ _ | refine Kp.below ?_ HU4.out.2 | refine Kp.below ?_ HU3.out.2 | refine Kp.below ?_ HU2.out.2 | refine Kp.below ?_ HU1.out.2 | refine Kp.dr ?_ | refine Kp.al ?_ _ | refine Kp.sc ?_ _ _))) (by first | (left; simp; done) | (left; simp; omega) | (left; omega) | (right; simp; done) | (right; simp; omega) | (right; omega))) (HU2.out.1 _ _ (by with_reducible (repeat (first | exact Kp.refl _ _ | refine Kp.below ?_ HU4.out.2 | refine Kp.below ?_ HU3.out.2 | refine Kp.below ?_ HU2.out.2 | refine Kp.below ?_ HU1.out.2 | refine Kp.dr ?_ | refine Kp.al ?_ _ | refine Kp.sc ?_ _ _))) (by first | (left; simp; done) | (left; simp; omega) | (left; omega) | (right; simp; done) | (right; simp; omega) | (right; omega))) (HU3.out.1 _ _ (by with_reducible (repeat (first | exact Kp.refl _ _ | refine Kp.below ?_ HU4.out.2 | refine Kp.below ?_ HU3.out.2 | refine Kp.below ?_ HU2.out.2 | refine Kp.below ?_ HU1.out.2 | refine Kp.dr ?_ | refine Kp.al ?_ _ | refine Kp.sc ?_ _ _))) (by first | (left; simp; done) | (left; simp; omega) | (left; omega) | (right; simp; done) | (right; simp; omega) | (right; omega))) (HU4.out.1 _ _ (by with_reducible (repeat (first | exact Kp.refl _ _ | refine Kp.below ?_ HU4.out.2 | refine Kp.below ?_ HU3.out.2 | refine Kp.below ?_ HU2.out.2 | refine Kp.below ?_ HU1.out.2 | refine Kp.dr ?_ | refine Kp.al ?_ _ | refine Kp.sc ?_ _ _))) (by first | (left; simp; done) | (left; simp; omega) | (left; omega) | (right; simp; done) | (right; simp; omega) | (right; omega)))⟩
  case rest =>
    obtain ⟨b, u, rfl, k⟩ := hcut
    obtain ⟨hG, hpv, hlen, hpv2, hlen2, hiv, hli⟩ := HG.out
    have CALLS := Lib.hid (fun x y z => HSC.out b u x y z hG g0 hpv hlen g1 hpv2 hlen2 g2 hiv hli g3)
    clear hG hpv hlen hpv2 hlen2 hiv hli CC HG HSC HB0 hz3
    have c0 : wc.cell? ⟨N, 0, none⟩ = some (.slice a G.n cap) := hN ▸ k.c0
    have c10 : wc.cell? ⟨N + 1, 0, none⟩ = some (.int .i64 sh) := hN ▸ k.c10
    have c11 : wc.cell? ⟨N + 1, 1, none⟩ = some (.slice pa np pc) := hN ▸ k.c11
    have c20 : wc.cell? ⟨N + 1 + 1, 0, none⟩ = some (.int .i64 sh2) := hN ▸ k.c20
    have c21 : wc.cell? ⟨N + 1 + 1, 1, none⟩ = some (.slice pa2 np2 pc2) := hN ▸ k.c21
    have cu := k.cu
    have HK := Lib.hid k
    clear k
    go_wp2_with fail
    refine (CALLS.out _ _ _ _ HK.out).1.mono ?_
    rintro e w1 ⟨⟨r0, rfl⟩, k⟩
    clear HK c0 c10 c11 c20 c21 cu
    have c0 : w1.cell? ⟨N, 0, none⟩ = some (.slice a G.n cap) := hN ▸ k.c0
    have c10 : w1.cell? ⟨N + 1, 0, none⟩ = some (.int .i64 sh) := hN ▸ k.c10
    have c11 : w1.cell? ⟨N + 1, 1, none⟩ = some (.slice pa np pc) := hN ▸ k.c11
    have c20 : w1.cell? ⟨N + 1 + 1, 0, none⟩ = some (.int .i64 sh2) := hN ▸ k.c20
    have c21 : w1.cell? ⟨N + 1 + 1, 1, none⟩ = some (.slice pa2 np2 pc2) := hN ▸ k.c21
    have cu := k.cu
    have HK := Lib.hid k
    clear k
    go_wp2_with fail
    refine (CALLS.out _ _ _ _ HK.out).2.1.mono ?_
    rintro e w2 ⟨⟨r1, rfl⟩, k⟩
    clear HK c0 c10 c11 c20 c21 cu
    have c0 : w2.cell? ⟨N, 0, none⟩ = some (.slice a G.n cap) := hN ▸ k.c0
    have c10 : w2.cell? ⟨N + 1, 0, none⟩ = some (.int .i64 sh) := hN ▸ k.c10
    have c11 : w2.cell? ⟨N + 1, 1, none⟩ = some (.slice pa np pc) := hN ▸ k.c11
    have c20 : w2.cell? ⟨N + 1 + 1, 0, none⟩ = some (.int .i64 sh2) := hN ▸ k.c20
    have c21 : w2.cell? ⟨N + 1 + 1, 1, none⟩ = some (.slice pa2 np2 pc2) := hN ▸ k.c21
    have cu := k.cu
    have HK := Lib.hid k
    clear k
    go_wp2_with fail
    refine (CALLS.out _ _ _ _ HK.out).2.2.1.mono ?_
    rintro e w3 ⟨⟨r2, rfl⟩, k⟩
    clear HK c0 c10 c11 c20 c21 cu
    have c0 : w3.cell? ⟨N, 0, none⟩ = some (.slice a G.n cap) := hN ▸ k.c0
    have c10 : w3.cell? ⟨N + 1, 0, none⟩ = some (.int .i64 sh) := hN ▸ k.c10
    have c11 : w3.cell? ⟨N + 1, 1, none⟩ = some (.slice pa np pc) := hN ▸ k.c11
    have c20 : w3.cell? ⟨N + 1 + 1, 0, none⟩ = some (.int .i64 sh2) := hN ▸ k.c20
    have c21 : w3.cell? ⟨N + 1 + 1, 1, none⟩ = some (.slice pa2 np2 pc2) := hN ▸ k.c21
    have cu := k.cu
    have HK := Lib.hid k
    clear k
    go_wp2_with fail
    refine (CALLS.out _ _ _ _ HK.out).2.2.2.1.mono ?_
    rintro e w4 ⟨⟨r3, rfl⟩, k⟩
    clear HK c0 c10 c11 c20 c21 cu
    have c0 : w4.cell? ⟨N, 0, none⟩ = some (.slice a G.n cap) := hN ▸ k.c0
    have c10 : w4.cell? ⟨N + 1, 0, none⟩ = some (.int .i64 sh) := hN ▸ k.c10
    have c11 : w4.cell? ⟨N + 1, 1, none⟩ = some (.slice pa np pc) := hN ▸ k.c11
    have c20 : w4.cell? ⟨N + 1 + 1, 0, none⟩ = some (.int .i64 sh2) := hN ▸ k.c20
    have c21 : w4.cell? ⟨N + 1 + 1, 1, none⟩ = some (.slice pa2 np2 pc2) := hN ▸ k.c21
    have cu := k.cu
    have HK := Lib.hid k
    clear k
    go_wp2_with fail
    refine (CALLS.out _ _ _ _ HK.out).2.2.2.2.1.mono ?_
    rintro e w5 ⟨⟨r4, rfl⟩, k⟩
    clear HK c0 c10 c11 c20 c21 cu
    have c0 : w5.cell? ⟨N, 0, none⟩ = some (.slice a G.n cap) := hN ▸ k.c0
    have c10 : w5.cell? ⟨N + 1, 0, none⟩ = some (.int .i64 sh) := hN ▸ k.c10
    have c11 : w5.cell? ⟨N + 1, 1, none⟩ = some (.slice pa np pc) := hN ▸ k.c11
    have c20 : w5.cell? ⟨N + 1 + 1, 0, none⟩ = some (.int .i64 sh2) := hN ▸ k.c20
    have c21 : w5.cell? ⟨N + 1 + 1, 1, none⟩ = some (.slice pa2 np2 pc2) := hN ▸ k.c21
    have cu := k.cu
    have HK := Lib.hid k
    clear k
    go_wp2_with fail
    refine (CALLS.out _ _ _ _ HK.out).2.2.2.2.2.1.mono ?_
    rintro e w6 ⟨⟨r5, rfl⟩, k⟩
    clear HK c0 c10 c11 c20 c21 cu
    have c0 : w6.cell? ⟨N, 0, none⟩ = some (.slice a G.n cap) := hN ▸ k.c0
    have c10 : w6.cell? ⟨N + 1, 0, none⟩ = some (.int .i64 sh) := hN ▸ k.c10
    have c11 : w6.cell? ⟨N + 1, 1, none⟩ = some (.slice pa np pc) := hN ▸ k.c11
    have c20 : w6.cell? ⟨N + 1 + 1, 0, none⟩ = some (.int .i64 sh2) := hN ▸ k.c20
    have c21 : w6.cell? ⟨N + 1 + 1, 1, none⟩ = some (.slice pa2 np2 pc2) := hN ▸ k.c21
    have cu := k.cu
    have HK := Lib.hid k
    clear k
    go_wp2_with fail
    refine (CALLS.out _ _ _ _ HK.out).2.2.2.2.2.2.1.mono ?_
    rintro e w7 ⟨⟨r6, rfl⟩, k⟩
    clear HK c0 c10 c11 c20 c21 cu
    have c0 : w7.cell? ⟨N, 0, none⟩ = some (.slice a G.n cap) := hN ▸ k.c0
    have c10 : w7.cell? ⟨N + 1, 0, none⟩ = some (.int .i64 sh) := hN ▸ k.c10
    have c11 : w7.cell? ⟨N + 1, 1, none⟩ = some (.slice pa np pc) := hN ▸ k.c11
    have c20 : w7.cell? ⟨N + 1 + 1, 0, none⟩ = some (.int .i64 sh2) := hN ▸ k.c20
    have c21 : w7.cell? ⟨N + 1 + 1, 1, none⟩ = some (.slice pa2 np2 pc2) := hN ▸ k.c21
    have cu := k.cu
    have HK := Lib.hid k
    clear k
    go_wp2_with fail
    refine (CALLS.out _ _ _ _ HK.out).2.2.2.2.2.2.2.1.mono ?_
    rintro e w8 ⟨rfl, k⟩
    clear HK c0 c10 c11 c20 c21 cu
    have c0 : w8.cell? ⟨N, 0, none⟩ = some (.slice a G.n cap) := hN ▸ k.c0
    have c10 : w8.cell? ⟨N + 1, 0, none⟩ = some (.int .i64 sh) := hN ▸ k.c10
    have c11 : w8.cell? ⟨N + 1, 1, none⟩ = some (.slice pa np pc) := hN ▸ k.c11
    have c20 : w8.cell? ⟨N + 1 + 1, 0, none⟩ = some (.int .i64 sh2) := hN ▸ k.c20
    have c21 : w8.cell? ⟨N + 1 + 1, 1, none⟩ = some (.slice pa2 np2 pc2) := hN ▸ k.c21
    have cu := k.cu
    have HK := Lib.hid k
    clear k
    go_wp2_with fail
    refine (CALLS.out _ _ _ _ HK.out).2.2.2.2.2.2.2.2.1.mono ?_
    rintro e w9 ⟨rfl, k⟩
    clear HK c0 c10 c11 c20 c21 cu
    have c0 : w9.cell? ⟨N, 0, none⟩ = some (.slice a G.n cap) := hN ▸ k.c0
    have c10 : w9.cell? ⟨N + 1, 0, none⟩ = some (.int .i64 sh) := hN ▸ k.c10
    have c11 : w9.cell? ⟨N + 1, 1, none⟩ = some (.slice pa np pc) := hN ▸ k.c11
    have c20 : w9.cell? ⟨N + 1 + 1, 0, none⟩ = some (.int .i64 sh2) := hN ▸ k.c20
    have c21 : w9.cell? ⟨N + 1 + 1, 1, none⟩ = some (.slice pa2 np2 pc2) := hN ▸ k.c21
    have cu := k.cu
    have HK := Lib.hid k
    clear k
    go_wp2_with fail
    refine (CALLS.out _ _ _ _ HK.out).2.2.2.2.2.2.2.2.2.1.mono ?_
    rintro e w10 ⟨rfl, k⟩
    clear HK c0 c10 c11 c20 c21 cu
    have c0 : w10.cell? ⟨N, 0, none⟩ = some (.slice a G.n cap) := hN ▸ k.c0
    have c10 : w10.cell? ⟨N + 1, 0, none⟩ = some (.int .i64 sh) := hN ▸ k.c10
    have c11 : w10.cell? ⟨N + 1, 1, none⟩ = some (.slice pa np pc) := hN ▸ k.c11
    have c20 : w10.cell? ⟨N + 1 + 1, 0, none⟩ = some (.int .i64 sh2) := hN ▸ k.c20
    have c21 : w10.cell? ⟨N + 1 + 1, 1, none⟩ = some (.slice pa2 np2 pc2) := hN ▸ k.c21
    have cu := k.cu
    have HK := Lib.hid k
    clear k
    go_wp2_with fail
    refine (CALLS.out _ _ _ _ HK.out).2.2.2.2.2.2.2.2.2.2.1.mono ?_
    rintro e w11 ⟨rfl, k⟩
    clear HK c0 c10 c11 c20 c21 cu
    have c0 : w11.cell? ⟨N, 0, none⟩ = some (.slice a G.n cap) := hN ▸ k.c0
    have c10 : w11.cell? ⟨N + 1, 0, none⟩ = some (.int .i64 sh) := hN ▸ k.c10
    have c11 : w11.cell? ⟨N + 1, 1, none⟩ = some (.slice pa np pc) := hN ▸ k.c11
    have c20 : w11.cell? ⟨N + 1 + 1, 0, none⟩ = some (.int .i64 sh2) := hN ▸ k.c20
    have c21 : w11.cell? ⟨N + 1 + 1, 1, none⟩ = some (.slice pa2 np2 pc2) := hN ▸ k.c21
    have cu := k.cu
    have HK := Lib.hid k
    clear k
    go_wp2_with fail
    refine (CALLS.out _ _ _ _ HK.out).2.2.2.2.2.2.2.2.2.2.2.mono ?_
    rintro e w12 ⟨rfl, k⟩
    clear HK c0 c10 c11 c20 c21 cu
    have c0 : w12.cell? ⟨N, 0, none⟩ = some (.slice a G.n cap) := hN ▸ k.c0
    have c10 : w12.cell? ⟨N + 1, 0, none⟩ = some (.int .i64 sh) := hN ▸ k.c10
    have c11 : w12.cell? ⟨N + 1, 1, none⟩ = some (.slice pa np pc) := hN ▸ k.c11
    have c20 : w12.cell? ⟨N + 1 + 1, 0, none⟩ = some (.int .i64 sh2) := hN ▸ k.c20
    have c21 : w12.cell? ⟨N + 1 + 1, 1, none⟩ = some (.slice pa2 np2 pc2) := hN ▸ k.c21
    have cu := k.cu
    have HK := Lib.hid k
    clear k
    go_wp2
    go_ret
    exact ⟨rfl, hN ▸ HK.out.bel⟩
end
end Go.Proofs.Ytlckpgahijlmoaa
