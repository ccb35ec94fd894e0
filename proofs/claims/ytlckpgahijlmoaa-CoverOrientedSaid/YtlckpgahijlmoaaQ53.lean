/- The law CoverOriented: its walk. -/
import Derived.Test.YtlckpgahijlmoaaQ47
import Derived.Test.YtlckpgahijlmoaaQ52
import Derived.Test.YtlckpgahijlmoaaQ48
import Derived.Test.YtlckpgahijlmoaaQ46
import Derived.Test.YtlckpgahijlmoaaQ37
import Derived.Test.YtlckpgahijlmoaaQ42
import Derived.Test.YtlckpgahijlmoaaQ16
/- The covering of two sheets is the twofold cover and has an orientation. Plain laws. -/
namespace Go.Proofs.Ytlckpgahijlmoaa

section
variable {G : Gl} (hok : checkB G = true)
include hok
/-- the gluing of the covering of two sheets is the twofold cover -/
theorem or_two : ∀ K, K < 4 * (2 * G.n) → (covG G (orF G) (fun k => invP (orF G k) 2) 2).tet K = (twoM G (4 * (G.n + G.n))).tet K ∧ (covG G (orF G) (fun k => invP (orF G k) 2) 2).pm K = (twoM G (4 * (G.n + G.n))).pm K := by
  have hS : Sh G 2 (orF G) (fun k => invP (orF G k) 2) := sh_of (sh := 2) (len := fun _ => 2) fun k _ => permB_or k
  intro K hK
  obtain ⟨s, k, hs, hk, rfl⟩ := cov_split hok hS hK
  obtain ⟨hp, hneg, hpos⟩ := cov_face hok hS hs hk
  have hlt : 4 * G.n * s + k < 4 * (G.n + G.n) := by
    rcases (show s = 0 ∨ s = 1 by omega) with rfl | rfl <;> omega
  have hu : (uniG G).tet (4 * G.n * s + k) = (if G.tet k < 0 then G.tet k else ((s * G.n + G.T k : Nat) : Int)) ∧ (uniG G).pm (4 * G.n * s + k) = G.pm k := by
    rcases (show s = 0 ∨ s = 1 by omega) with rfl | rfl
    · simp only [uniG, Nat.mul_zero, Nat.zero_add, hk, if_true, Nat.zero_mul]
      refine ⟨?_, trivial⟩
      split
      · rfl
      · rename_i h; exact (ok_face hok hk h).1
    · have e1 : ¬ 4 * G.n * 1 + k < 4 * G.n := by omega
      have e2 : 4 * G.n * 1 + k - 4 * G.n = k := by omega
      simp only [uniG, e1, if_false, e2, movF]
      refine ⟨?_, trivial⟩
      split
      · rfl
      · rename_i h
        rw [(ok_face hok hk h).1]; push_cast; omega
  refine ⟨?_, by rw [hp, ← hu.2]; rfl⟩
  show _ = if 4 * G.n * s + k < 4 * (G.n + G.n) then (if flipB G (4 * G.n * s + k) then ((uniG G).tet (4 * G.n * s + k) + G.n) % (2 * G.n) else (uniG G).tet (4 * G.n * s + k)) else (uniG G).tet (4 * G.n * s + k)
  rw [if_pos hlt]
  have hfl : flipB G (4 * G.n * s + k) = (decide (0 ≤ (uniG G).tet (4 * G.n * s + k)) && SignR ((uniG G).pm (4 * G.n * s + k)) == 1) := rfl
  by_cases ht : G.tet k < 0
  · rw [hneg ht]
    rw [if_pos ht] at hu
    have : flipB G (4 * G.n * s + k) = false := by rw [hfl, hu.1]; simp; omega
    rw [this, hu.1]; simp
  · obtain ⟨s', h1, h2, h3, -⟩ := hpos ht
    rw [h3]
    rw [if_neg ht] at hu
    have e4 : 4 * (k / 4) + k % 4 = k := by omega
    rw [crF_or hok (by omega) (by omega) hs (by rw [e4]; exact ht), e4] at h2
    obtain ⟨t1, t2, -⟩ := ok_face hok hk ht
    have hf2 : flipB G (4 * G.n * s + k) = decide (SignR (G.pm k) = 1) := by
      rw [hfl, hu.1, hu.2]
      have : (0 : Int) ≤ ((s * G.n + G.T k : Nat) : Int) := by omega
      by_cases q : SignR (G.pm k) = 1
      · rw [q, decide_eq_true this]; rfl
      · simp [q]
    rw [hf2, hu.1]
    by_cases q : SignR (G.pm k) = 1
    · rw [if_pos q] at h2
      simp only [q, decide_true, if_true]
      rcases (show s = 0 ∨ s = 1 by omega) with rfl | rfl
      · obtain rfl : s' = 1 := by omega
        rw [Int.emod_eq_of_lt (by omega) (by omega)]; omega
      · obtain rfl : s' = 0 := by omega
        have : (((1 * G.n + G.T k : Nat) : Int) + G.n) = G.T k + (2 * G.n) := by push_cast; omega
        rw [this, Int.add_emod_right, Int.emod_eq_of_lt (by omega) (by omega)]; simp
    · rw [if_neg q] at h2
      simp only [q, decide_false]
      obtain rfl : s' = s := by omega
      rfl
/-- it has an orientation -/
theorem or_oriented : Oriented (covG G (orF G) (fun k => invP (orF G k) 2) 2) (fun u => if u < G.n then 1 else -1) := by
  have hS : Sh G 2 (orF G) (fun k => invP (orF G k) 2) := sh_of (sh := 2) (len := fun _ => 2) fun k _ => permB_or k
  refine ⟨fun u _ => ?_, fun K hK hn => ?_⟩
  · show (if u < G.n then (1 : Int) else -1) = 1 ∨ (if u < G.n then (1 : Int) else -1) = -1
    split <;> simp
  · obtain ⟨s, k, hs, hk, rfl⟩ := cov_split hok hS (show K < 4 * (2 * G.n) from hK)
    obtain ⟨hp, hneg, hpos⟩ := cov_face hok hS hs hk
    by_cases ht : G.tet k < 0
    · exact absurd ht (by rw [← hneg ht]; exact hn)
    · obtain ⟨s', h1, h2, h3, -⟩ := hpos ht
      have e4 : 4 * (k / 4) + k % 4 = k := by omega
      rw [crF_or hok (by omega) (by omega) hs (by rw [e4]; exact ht), e4] at h2
      obtain ⟨t1, t2, -⟩ := ok_face hok hk ht
      have hT : (covG G (orF G) (fun k => invP (orF G k) 2) 2).T (4 * G.n * s + k) = s' * G.n + G.T k := by
        show ((covG G (orF G) (fun k => invP (orF G k) 2) 2).tet (4 * G.n * s + k)).toNat = _
        rw [h3, Int.toNat_natCast]
      have ed : (4 * G.n * s + k) / 4 = s * G.n + k / 4 := by rw [Nat.mul_assoc, Nat.mul_comm s]; omega
      rw [hT, hp, ed]
      show (if s' * G.n + G.T k < G.n then (1 : Int) else -1) = -SignR (G.pm k) * (if s * G.n + k / 4 < G.n then (1 : Int) else -1)
      have hkn : k / 4 < G.n := by omega
      rcases SignR_pm hok hk ht with q | q
      · rw [q] at h2 ⊢
        rw [if_pos rfl] at h2
        rcases (show s = 0 ∨ s = 1 by omega) with rfl | rfl
        · obtain rfl : s' = 1 := by omega
          rw [if_neg (by omega), if_pos (by omega)]; decide
        · obtain rfl : s' = 0 := by omega
          rw [if_pos (by omega), if_neg (by omega)]; decide
      · rw [q] at h2 ⊢
        rw [if_neg (by decide)] at h2
        obtain rfl : s' = s := by omega
        rcases (show s' = 0 ∨ s' = 1 by omega) with rfl | rfl
        · rw [if_pos (by omega), if_pos (by omega)]; decide
        · rw [if_neg (by omega), if_neg (by omega)]; decide
end
end Go.Proofs.Ytlckpgahijlmoaa
namespace Go.Proofs.Ytlckpgahijlmoaa
open Go.RowKit Go.Shelf Go.Maps

/-- the boxes: the gluing, the covering of two sheets -/
structure OS (w : World) (N : Nat) (G : Gl) (a : Option Addr) (cap D : Nat) (pa : Option Addr) (pc : Nat) (W : World) : Prop where
  bel : Below N w W
  c0 : W.cell? ⟨N, 0, none⟩ = some (.slice a G.n cap)
  k0 : W.cell? ⟨D, 0, none⟩ = some (.int .i64 2)
  k1 : W.cell? ⟨D, 1, none⟩ = some (.slice pa (nF G) pc)
  ll : LLs W.heap.size W (.slice pa (nF G) pc) (nF G) (fun _ => 2) (orF G)
theorem OS.below {w W W' : World} {N : Nat} {G : Gl} {a : Option Addr} {cap D : Nat} {pa : Option Addr} {pc : Nat} (h : OS w N G a cap D pa pc W) (hb : Below W.heap.size W W') : OS w N G a cap D pa pc W' := by
  have hg := below_grown hb (Nat.le_refl _) none
  have hN := lt_of_cell h.c0
  simp only at hN
  exact ⟨h.bel.trans (hb.mono (by omega)), hg.cell h.c0 (by simp), hg.cell h.k0 (by simp), hg.cell h.k1 (by simp), (h.ll.below hb).mono hb.size⟩
/-- a gluing in a box -/
structure BX (W : World) (D : Nat) (ua : Option Addr) (uc : Nat) (H : Gl) : Prop where
  c : W.cell? ⟨D, 0, none⟩ = some (.slice ua H.n uc)
  g : GlAt W.heap.size W (.slice ua H.n uc) H
theorem BX.below {W W' : World} {D : Nat} {ua : Option Addr} {uc : Nat} {H : Gl} (h : BX W D ua uc H) (hb : Below W.heap.size W W') : BX W' D ua uc H :=
  ⟨(below_grown hb (Nat.le_refl _) none).cell h.c (by simp), (h.g.below hb).mono hb.size⟩
theorem LLs_form {B : Nat} {W : World} {v : Value} {n : Nat} {len : Nat → Nat} {f : Nat → Nat → Int} (h : LLs B W v n len f) : ∃ a c, v = .slice a n c := by
  obtain ⟨a, _, _, cap, e, _⟩ := h; exact ⟨a, cap, e⟩
theorem GlAt_form {B : Nat} {W : World} {v : Value} {G : Gl} (h : GlAt B W v G) : ∃ a c, v = .slice a G.n c := by
  obtain ⟨a, _, _, cap, e, _⟩ := h; exact ⟨a, cap, e⟩
/-- an error is 0 where the covering is one -/
theorem AskedErr.zero {G : Gl} {sh : Int} {np : Nat} {len : Nat → Nat} {fp : Nat → Nat → Int} {c : Int} (h : AskedErr G sh np len fp c) (he : EnterErr G 0) (hc : CovOK G sh np len fp) : c = 0 := by
  have hok : checkB G = true ∧ ∀ i, i < nE G → revK G (6 * G.n) i = false := by
    rcases he with ⟨_, h⟩ | ⟨_, _, h⟩ | ⟨h1, h2, _⟩
    · cases h
    · cases h
    · exact ⟨h1, h2⟩
  rcases h with ⟨h1, _⟩ | ⟨_, ⟨i, h1, h2⟩, _⟩ | ⟨_, _, h1, _⟩ | ⟨_, _, _, h1⟩
  · rw [hok.1] at h1; cases h1
  · rw [hok.2 i h1] at h2; cases h2
  · exact absurd hc h1
  · exact h1
theorem EnterErr.ok {G : Gl} (h : EnterErr G 0) : checkB G = true := by
  rcases h with ⟨_, h⟩ | ⟨_, _, h⟩ | ⟨h1, h2, _⟩
  · cases h
  · cases h
  · exact h1

theorem parts_val {G : Gl} (hok : checkB G = true) {h : Nat → Int} (hA : HV G (ptN G) (-1) G.n [] h) {u : Nat} (hu : u < G.n) : 0 ≤ h u ∧ h u < 1000 := by
  have h1 := pt_le hok hu
  have h2 := cnt_le (ptR G) (ptR G u)
  have h3 := ok_size hok
  rw [hA u hu, if_pos (.inl (by omega)), ptN]
  omega
/-- copies have sh times as many parts -/
theorem parts_copies {G : Gl} (hok : checkB G = true) (sh : Nat) : cnt (ptR (covG G idF (fun k => invP (idF k) sh) sh)) (sh * G.n) = sh * cnt (ptR G) G.n := by
  rcases Nat.eq_zero_or_pos G.n with h0 | h0
  · rw [h0]; simp [cnt]
  · have hp : ptR (covG G idF (fun k => invP (idF k) sh) sh) = St G.n sh (ptR G) id := by
      have := ptF_copies (f := idF) (g := fun k => invP (idF k) sh) (sh := sh) hok h0 (fun _ i _ _ => rfl) (fun _ i _ hi => invP_id hi)
      rw [← this]
      show lp _ id (4 * (sh * G.n)) = _
      rw [show 4 * (sh * G.n) = 4 * G.n * sh by rw [Nat.mul_comm sh, Nat.mul_assoc]]
    rw [hp, Nat.mul_comm sh G.n]
    exact cnt_copies sh h0 (fun x hx => Nat.lt_of_le_of_lt (pt_le hok hx) hx) sh (Nat.le_refl _)
section
variable (G : Gl) (v : Value) (s : Int) (w : World) (hG : GlAt w.heap.size w v G) (hm : G.n ≤ 9223372036854775807)
include hG hm
set_option maxRecDepth 100000 in
set_option maxHeartbeats 4000000 in
theorem oriented_walk : Calls Try.prog 3 #[.agg #[v], .int .i64 s] w fun e w' => e = .returned (.bool true) ∧ Below w.heap.size w w' := by
  have HG := Lib.hid hG
  obtain ⟨a, cap, rfl⟩ := GlAt_form hG
  clear hG
  generalize hN : w.heap.size = N at *
  go_enter Try.func3, Try.ntmps3
  have hb0 : ∀ o1, Below w.heap.size w (w.alloc o1) := fun o1 => by (repeat' (first | assumption | exact Below.refl _ _ | refine below_then ?_ (by assumption) | refine below_al ?_ _ | refine below_dr ?_ | refine below_sc ?_ (by simp <;> omega) _))
  rw [hN] at hb0
  have HB0 := Lib.hid hb0
  clear hb0
  rcases Nat.lt_or_ge 12 G.n with g0 | g0
  · have q0 : decide ((12 : Int) < (G.n : Int)) = true := by simp; omega
    go_wp2_with ((go_at_call 9; (with_reducible refine (sane_walk _).mono ?_); rintro e w4 ⟨rfl, hb4⟩; have HB4 := Lib.hid ((HB0.out _).trans (hb4.mono (by simp; omega))); clear hb4))
    go_ret
    exact ⟨rfl, HB4.out⟩
  have q0 : decide ((12 : Int) < (G.n : Int)) = false := by simp; omega
  go_wp2_with fail
  refine wp_world_named fun W0 hW => ?_
  have h0 : Below N w W0 ∧ W0.cell? ⟨N, 0, none⟩ = some (.slice a G.n cap) ∧ W0.heap.size = N + 1 := by
    rw [hW]; exact ⟨HB0.out _, by subst hN; simp [go_sem], by subst hN; simp⟩
  clear hW
  obtain ⟨hb, c0, hz0⟩ := h0
  refine (Orientation_two G (.slice a G.n cap) W0 ((HG.out.below hb).mono (by omega)) hm).mono ?_
  rintro e W1 ⟨hb1, c, sh, pv, rfl, hans⟩
  have y0 := (hb1.cell (p := ⟨N, 0, none⟩) (lt_of_cell c0)).trans c0
  have hbw := hb.trans (hb1.mono (by omega))
  have hNW : N + 1 ≤ W1.heap.size := by have := hb1.size; omega
  have HBW := Lib.hid hbw
  clear hb hb1 c0 hz0 hbw HB0
  obtain ⟨pa, pn, pc, rfl⟩ : ∃ pa pn pc, pv = .slice pa pn pc := by
    rcases hans with ⟨_, _, _, rfl⟩ | ⟨_, _, _, _, rfl⟩ | ⟨_, _, _, _, h⟩
    · exact ⟨_, _, _, rfl⟩
    · exact ⟨_, _, _, rfl⟩
    · obtain ⟨a, c, e⟩ := LLs_form h; exact ⟨_, _, _, e⟩
  by_cases hc : c = 0
  · subst hc
    obtain ⟨hen, h5, rfl, hll⟩ : EnterErr G 0 ∧ G.n ≤ 500 ∧ sh = 2 ∧ LLs W1.heap.size W1 (.slice pa pn pc) (nF G) (fun _ => 2) (orF G) := by
      rcases hans with ⟨h, _⟩ | ⟨_, _, h, _⟩ | ⟨h1, h2, _, h3, h4⟩
      · exact absurd rfl h
      · cases h
      · exact ⟨h1, h2, h3, h4⟩
    obtain rfl : pn = nF G := by obtain ⟨a, c, e⟩ := LLs_form hll; cases e; rfl
    have HEN := Lib.hid hen
    have HLL := Lib.hid hll
    clear hans hen hll
    have y0a := cell_al y0
    go_wp2_with fail
    refine wp_world_named fun W2 hW => ?_
    obtain ⟨D, hD⟩ : ∃ D, D = W1.heap.size := ⟨_, rfl⟩
    rw [← hD]
    have hS : OS w N G a cap D pa pc W2 := by
      have hal := World.grownBy_alloc W1 (.cells #[.int .i64 2, .slice pa (nF G) pc] 28) none
      rw [← hW] at hal
      have hbb : Below W1.heap.size W1 W2 := by rw [hW]; (repeat' (first | assumption | exact Below.refl _ _ | refine below_then ?_ (by assumption) | refine below_al ?_ _ | refine below_dr ?_ | refine below_sc ?_ (by simp <;> omega) _))
      exact ⟨HBW.out.trans (hbb.mono (by omega)), hal.cell y0 (by simp), by rw [hW, hD]; simp [go_sem], by rw [hW, hD]; simp [go_sem], (HLL.out.below hbb).mono hbb.size⟩
    clear hW hD y0
    have HF4 : nF G ≤ 4000 := by have := cnt_le (clsAll G).r4 (4 * G.n); unfold nF; omega
    have HOR := Lib.hid (or_ok HEN.out.ok h5)
    clear y0a HBW HLL
    refine (coverMake_walk G (.slice a G.n cap) 2 (.slice pa (nF G) pc) (nF G) (fun _ => 2) (orF G) W2 ((HG.out.below hS.bel).mono (by have := hS.bel.size; omega)) hm hS.ll (fun _ _ => by omega) (by omega)).mono ?_
    rintro e W3 ⟨hb3, c, u, rfl, herr, hu⟩
    obtain rfl := herr.zero HEN.out HOR.out
    obtain ⟨H, hH⟩ : ∃ H, H = covG G (orF G) (fun k => invP (orF G k) 2) 2 := ⟨_, rfl⟩
    have hgl : GlAt W3.heap.size W3 u H := by
      rcases hu with ⟨h, _⟩ | ⟨_, _, h⟩
      · exact absurd rfl h
      · rw [hH]; exact h
    have hHn : H.n = 2 * G.n := by rw [hH]; rfl
    have HH := Lib.hid (And.intro hH hHn)
    obtain ⟨ua, uc, rfl⟩ := GlAt_form hgl
    have hS3 := hS.below hb3
    have HS3 := Lib.hid (And.intro hS3 hgl)
    have y0 := cell_al hS3.c0
    clear hS hb3 herr hu hgl hS3 hHn hH
    go_wp2_with fail
    refine wp_world_named fun W4 hW => ?_
    obtain ⟨E, hE⟩ : ∃ E, E = W3.heap.size := ⟨_, rfl⟩
    rw [← hE]
    have hbb : Below W3.heap.size W3 W4 := by rw [hW]; (repeat' (first | assumption | exact Below.refl _ _ | refine below_then ?_ (by assumption) | refine below_al ?_ _ | refine below_dr ?_ | refine below_sc ?_ (by simp <;> omega) _))
    have hS4 := HS3.out.1.below hbb
    have hB4 : BX W4 E ua uc H := ⟨by rw [hW, hE]; simp [go_sem], (HS3.out.2.below hbb).mono hbb.size⟩
    clear hW hE hbb y0 HS3
    refine (twofold_walk G W4 (.slice a G.n cap) ((HG.out.below hS4.bel).mono (by have := hS4.bel.size; omega)) HEN.out.ok h5).mono ?_
    rintro e W5 ⟨u2, rfl, hg5, hb5⟩
    have hgl : GlAt W5.heap.size W5 u2 H := by
      have := or_two (G := G) HEN.out.ok
      rw [← HH.out.1] at this
      refine hg5.congr (by rw [HH.out.2]; show G.n + G.n = _; omega) (fun k hk => ((this k (by have hk2 : k < 4 * (G.n + G.n) := hk; omega)).1).symm) (fun k hk i _ => by rw [(this k (by have hk2 : k < 4 * (G.n + G.n) := hk; omega)).2])
    obtain ⟨ta, tc, rfl⟩ := GlAt_form hgl
    have hS5 := hS4.below hb5
    have hB5 := hB4.below hb5
    have HS5 := Lib.hid (And.intro hS5 (And.intro hB5 hgl))
    have y0 := cell_al hB5.c
    clear hS4 hB4 hb5 hg5 hgl hS5 hB5
    go_wp2_with fail
    refine wp_world_named fun W6 hW => ?_
    obtain ⟨F, hF⟩ : ∃ F, F = W5.heap.size := ⟨_, rfl⟩
    rw [← hF]
    have hbb : Below W5.heap.size W5 W6 := by rw [hW]; (repeat' (first | assumption | exact Below.refl _ _ | refine below_then ?_ (by assumption) | refine below_al ?_ _ | refine below_dr ?_ | refine below_sc ?_ (by simp <;> omega) _))
    have hS6 := HS5.out.1.below hbb
    have hB6 := HS5.out.2.1.below hbb
    have hT6 : BX W6 F ta tc H := ⟨by rw [hW, hF]; simp [go_sem], (HS5.out.2.2.below hbb).mono hbb.size⟩
    clear hW hF hbb y0 HS5
    have hokH : checkB H = true := by rw [HH.out.1]; exact HOR.out.valid HEN.out.ok
    have hoH : Oriented H (fun u => if u < G.n then 1 else -1) := by rw [HH.out.1]; exact or_oriented HEN.out.ok
    have HOK := Lib.hid hokH
    refine (rorient_walk H hokH (orient_inv hokH hoH) (fun k hk ht => SignR_pm hokH hk ht) (.slice ua H.n uc) W6 hB6.g).mono ?_
    rintro e W7 ⟨d, rfl, hb7⟩
    have hS7 := hS6.below hb7
    have hB7 := hB6.below hb7
    have hT7 := hT6.below hb7
    have HS7 := Lib.hid (And.intro hS7 (And.intro hB7 hT7))
    have y0 := hS7.c0
    have y1 := hS7.k0
    have y2 := hS7.k1
    have y3 := hB7.c
    have y4 := hT7.c
    clear hS6 hB6 hT6 hb7 hS7 hB7 hT7 hokH hoH
    go_wp2_with fail
    refine (coverCheck_walk G (.slice a G.n cap) 2 (.slice pa (nF G) pc) (nF G) (fun _ => 2) (orF G) W7 ((HG.out.below HS7.out.1.bel).mono (by have := HS7.out.1.bel.size; omega)) hm HS7.out.1.ll (fun _ _ => by omega) (by omega)).mono ?_
    rintro e W8 ⟨hb8, c, rfl, herr⟩
    obtain rfl := herr.zero HEN.out HOR.out
    have hS8 := HS7.out.1.below hb8
    have hB8 := HS7.out.2.1.below hb8
    have hT8 := HS7.out.2.2.below hb8
    have HS8 := Lib.hid (And.intro hS8 (And.intro hB8 hT8))
    clear y0 y1 y2 y3 y4
    have y3 := hB8.c
    have y4 := hT8.c
    clear hb8 herr hS8 hB8 hT8 HS7
    go_wp2_with fail
    refine (Same_walk H (by have := HH.out.2; omega) W8 W8.heap.size (.slice ua H.n uc) (.slice ta H.n tc) (Nat.le_refl _) HS8.out.2.1.g HS8.out.2.2.g).mono ?_
    rintro e W9 ⟨rfl, hb9⟩
    have hS9 := HS8.out.1.below hb9
    have y0 := hS9.c0
    have y2 := hS9.k1
    have HS9 := Lib.hid hS9
    have HB9 := Lib.hid (And.intro hS9.bel (show N ≤ W9.heap.size from by have := lt_of_cell y0; simp only at this; omega))
    clear hb9 hS9 y3 y4 HS8
    rcases Int.lt_or_le s 1 with s1 | s1
    · have qs : decide (s < 1) = true := by simpa using s1
      go_wp2_with ((go_at_call 9; (with_reducible refine (sane_walk _).mono ?_); rintro e w4 ⟨rfl, hb4⟩; have HB4 := Lib.hid (HB9.out.1.trans (hb4.mono HB9.out.2)); clear hb4))
      go_ret
      exact ⟨rfl, HB4.out⟩
    have qs : decide (s < 1) = false := by simp; omega
    obtain ⟨sh, rfl⟩ : ∃ sh : Nat, s = sh := ⟨s.toNat, by omega⟩
    rcases Int.lt_or_le 6 (sh : Int) with s6 | s6
    · have qs2 : decide ((6 : Int) < (sh : Int)) = true := by simpa using s6
      go_wp2_with ((go_at_call 9; (with_reducible refine (sane_walk _).mono ?_); rintro e w4 ⟨rfl, hb4⟩; have HB4 := Lib.hid (HB9.out.1.trans (hb4.mono HB9.out.2)); clear hb4))
      go_ret
      exact ⟨rfl, HB4.out⟩
    have qs2 : decide ((6 : Int) < (sh : Int)) = false := by simp; omega
    obtain ⟨M, hM⟩ : ∃ M, M = sh * G.n := ⟨_, rfl⟩
    have hMb : M ≤ 72 := by
      have : sh * G.n ≤ 6 * 12 := Nat.mul_le_mul (by omega) g0
      omega
    have qM : IntKind.i64.wrap ((sh : Int) * (G.n : Int)) = (M : Int) := by
      have : (sh : Int) * (G.n : Int) = ((sh * G.n : Nat) : Int) := by push_cast; rfl
      rw [this, ← hM]; exact IntWalk.i64_in _ (by omega)
    have HM := Lib.hid hM
    clear hM
    rcases Nat.lt_or_ge 60 M with s60 | s60
    · have qs3 : decide ((60 : Int) < (M : Int)) = true := by simp; omega
      go_wp2_with ((go_at_call 9; (with_reducible refine (sane_walk _).mono ?_); rintro e w4 ⟨rfl, hb4⟩; have HB4 := Lib.hid (HB9.out.1.trans (hb4.mono HB9.out.2)); clear hb4))
      go_ret
      exact ⟨rfl, HB4.out⟩
    have qs3 : decide ((60 : Int) < (M : Int)) = false := by simp; omega
    have y2a := cell_al y2
    have hmk := run_make_row' (P := Try.prog) 35 3 (.int .i64 0) 8 und35 info3 rfl .i64 .i64 sh (by omega) (by omega)
    go_wp2
    refine wp_named fun W10 hW => ?_
    obtain ⟨Q, hQ⟩ : ∃ Q, Q = W9.heap.size := ⟨_, rfl⟩
    rw [← hQ]
    have h10 : COx W9 W10 Q 0 sh sh idF (.slice none 0 0) [] := by
      rw [hW]
      exact ⟨World.ownsRow_nil _ _ _ _, fun j x hx => by simp at hx, by rw [hQ]; simp [go_sem], by rw [hQ]; simp [go_sem], World.frozen?_alloc_at _ _ _ _ hQ, (Below.refl _ _).alloc (by omega) _⟩
    have H10 := Lib.hid h10
    have HQ := Lib.hid hQ
    clear hW hQ h10 y0 y2 y2a
    obtain ⟨P, hP⟩ : ∃ P, P = nF G := ⟨_, rfl⟩
    rw [← hP] at HF4
    have HP := Lib.hid hP
    have hQN : N ≤ Q := by have := HB9.out.2; have := HQ.out; omega
    simp only [← hP]
    clear hP
    go_loopw [105] (fun i wr => ∃ (k : Nat) (uv : Value) (xs : List Value), k ≤ P ∧ i = .int .i64 k ∧ COx W9 wr Q k sh sh idF uv xs) (fun i _ => P - (intOf i).toNat)
    case atStart => exact ⟨0, _, _, by omega, rfl, H10.out⟩
    case round =>
      clear H10
      obtain ⟨k, uv, xs, hk, rfl, hZ⟩ := hrel
      obtain ⟨wk, hwk⟩ : ∃ wk, wk = wr := ⟨_, rfl⟩
      subst hwk
      have HK := Lib.hid hZ
      obtain ⟨ka, kc, rfl⟩ := ownsRow_form hZ.own
      rcases Nat.lt_or_ge k P with hkP | hkP
      · have hDl := lt_of_cell hZ.d0
        simp only at hDl
        clear hZ
        go_wp2
        refine wp_named fun W11 hW => ?_
        obtain ⟨R, hR⟩ : ∃ R, R = wk.heap.size := ⟨_, rfl⟩
        rw [← hR]
        have h11 : wk.grownBy W11 none ∧ IntRow W11 R sh (fun j => if j < 0 then (j : Int) else 0) := by
          rw [hW, hR]
          exact ⟨World.grownBy_alloc _ _ _, (World.rowIs_made wk (.int .i64 0) sh 3).congr (fun i _ => by simp)⟩
        have H11 := Lib.hid h11
        have HR := Lib.hid hR
        clear hW hR h11
        go_loopw [111] (fun i wz => ∃ (j : Nat), j ≤ sh ∧ i = .int .i64 j ∧ wk.grownBy wz none ∧ IntRow wz R sh (fun i => if i < j then (i : Int) else 0)) (fun i _ => sh - (intOf i).toNat)
        case atStart => exact ⟨0, by omega, rfl, H11.out⟩
        case round =>
          clear H11
          obtain ⟨j, hj, rfl, hg, hrow⟩ := hrel
          have HJ := Lib.hid (And.intro hg hrow)
          rcases Nat.lt_or_ge j sh with hjs | hjs
          · have cj := hrow.cell hjs
            have fj := hrow.frozen j
            clear hg hrow
            have j0 : 0 ≤ (j : Int) := by omega
            have js : (j : Int) < (sh : Int) := by omega
            go_wp2
            refine ⟨⟨j + 1, by omega, by simp, grownBy_fresh HJ.out.1 _ _ (by rw [HR.out]; exact Nat.le_refl _), (HJ.out.2.set j _).congr (fun i _ => ?_)⟩, by simp [intOf]; omega⟩
            by_cases e : i = j
            · simp [e]
            · have : i < j + 1 ↔ i < j := by omega
              simp [e, this]
          · obtain rfl : j = sh := by omega
            have hk2 := HK.out.kept hg
            have d1 := hk2.d1
            have f1 := hk2.f1
            have d1a := cell_al d1
            have f1a : ∀ o, (wr.alloc o).frozen? ⟨Q, 1, none⟩ = false := fun o => ((World.grownBy_alloc wr o none).frozen_far ⟨Q, 1, none⟩ (lt_of_cell d1) (by simp)).trans f1
            have hrow2 : IntRow wr R j (idF k) := hrow.congr (fun i hi => by simp [hi, idF])
            obtain ⟨i3, hi3, hz30, hz31, hz32⟩ := info_parts info35
            have hsz := hg.size
            have hH2 := Lib.hid (And.intro hk2 (And.intro hrow2 (And.intro d1a (And.intro f1a hg))))
            clear hg hrow HJ hk2 hrow2 d1a f1a
            go_wp2_with (at_builtin; refine (wpList_append_lies _ rfl (.tmp 120) (.tmp 122) 26 rfl (Q + 1) 35 i3 _ 1 24 und26 hi3 hz30 hz31 hz32 rfl (by omega) (.slice ka k kc) k xs rfl (hH2.out.1.own.alloc _) ⟨wr.heap.size, 0, none⟩ 1 1 [.slice (some ⟨R, 0, none⟩) j j] rfl rfl (World.news_of_block (cs := #[.slice (some ⟨R, 0, none⟩) j j]) (MapKept.heap_alloc wr _).1) (by simp [Value.oneCell']) (by omega) (by unfold maxLen; omega) (by omega) (by simp; omega) (wr.heap.size + 1) (by simp) ?_); intro g cp w8 h1 h2 h3 h4; have c1 := h2.cell (hH2.out.2.2.1 _) hH2.out.1.ne; have f1' := (h2.frozen_far ⟨Q, 1, none⟩ (lt_of_cell (hH2.out.2.2.1 _)) hH2.out.1.ne).trans (hH2.out.2.2.2.1 _); have HA := Lib.hid (And.intro h1 (And.intro h2 h3)); clear h1 h2 h3 h4)
            exact ⟨⟨k + 1, _, _, by omega, by simp, COx.push HK.out (grownBy_trans hH2.out.2.2.2.2 (World.grownBy_alloc _ _ none)) (fun ob hob => ROWx.of_row (rowIs_kept hH2.out.2.1 (World.grownBy_alloc _ _ none) (by simp)) (by rw [HR.out]; exact hDl) (fun e => by have hRR := HR.out; rcases hob _ e with q | q <;> (try simp at q) <;> omega)) HA.out.1 HA.out.2.1 (HA.out.2.2.imp id (fun e => by simpa using e))⟩, by simp [intOf]; omega⟩
      · obtain rfl : k = P := by omega
        have hcd := hZ.bel
        rw [HQ.out] at hcd
        have hS12 := HS9.out.below hcd
        have y0 := hS12.c0
        have d0 := hZ.d0
        have d1 := hZ.d1
        have hLL := hZ.LLs
        have hid : CovOK G sh k (fun _ => sh) idF := by rw [HP.out]; exact id_ok HEN.out.ok (by omega) (by omega) (by have := HM.out; omega)
        have HID := Lib.hid (And.intro hid (And.intro hS12 hLL))
        clear hZ HK hcd hS12 hLL hid hmk HS9
        go_wp2_with fail
        refine (coverMake_walk G (.slice a G.n cap) sh (.slice ka k kc) k (fun _ => sh) idF wk ((HG.out.below HID.out.2.1.bel).mono (by have := HID.out.2.1.bel.size; omega)) hm HID.out.2.2 (fun _ _ => by omega) (by omega)).mono ?_
        rintro e W13 ⟨hb13, c, u, rfl, herr, hu⟩
        obtain rfl := herr.zero HEN.out HID.out.1
        obtain ⟨K, hK⟩ : ∃ K, K = covG G idF (fun k => invP (idF k) sh) sh := ⟨_, rfl⟩
        have hgl : GlAt W13.heap.size W13 u K := by
          rcases hu with ⟨h, _⟩ | ⟨_, _, h⟩
          · exact absurd rfl h
          · rw [hK]; exact h
        have hKn : K.n = M := by rw [hK, HM.out]; rfl
        have hKok : checkB K = true := by rw [hK]; exact HID.out.1.valid HEN.out.ok
        have HKK := Lib.hid (And.intro hK (And.intro hKn hKok))
        obtain ⟨va, vc, hve⟩ := GlAt_form hgl
        rw [hKn] at hve
        subst hve
        have hS13 := HID.out.2.1.below hb13
        have HS13 := Lib.hid (And.intro hS13 hgl)
        clear y0 d0 d1
        have y0 := hS13.c0
        have y0a := cell_al y0
        clear hb13 herr hu hgl hS13 hKn hK hKok HID
        go_wp2_with fail
        refine wp_world_named fun W14 hW => ?_
        obtain ⟨T, hT⟩ : ∃ T, T = W13.heap.size := ⟨_, rfl⟩
        rw [← hT]
        have hbb : Below W13.heap.size W13 W14 := by rw [hW]; (repeat' (first | assumption | exact Below.refl _ _ | refine below_then ?_ (by assumption) | refine below_al ?_ _ | refine below_dr ?_ | refine below_sc ?_ (by simp <;> omega) _))
        have hS14 := HS13.out.1.below hbb
        have hg14 := (HS13.out.2.below hbb).mono hbb.size
        have yT : W14.cell? ⟨T, 0, none⟩ = some (.slice va M vc) := by rw [hW, hT]; simp [go_sem]
        clear hW hT hbb y0 y0a HS13
        have hn := ok_size HEN.out.ok
        refine (rparts_walk G HEN.out.ok (parts_inv HEN.out.ok) (.slice a G.n cap) W14 ((HG.out.below hS14.bel).mono (by have := hS14.bel.size; omega))).mono ?_
        rintro e W15 ⟨d1, p1, h1, rfl, hr1, hA1, hd1, hb15⟩
        have hS15 := hS14.below hb15
        have yT2 := (hb15.cell (p := ⟨T, 0, none⟩) (lt_of_cell yT)).trans yT
        have hg15 := (hg14.below hb15).mono hb15.size
        have hv1 := fun u (hu : u < G.n) => parts_val HEN.out.ok hA1.2 hu
        have hmx1 := parts_mx HEN.out.ok hA1
        have H15 := Lib.hid (And.intro hr1 (And.intro hv1 (And.intro hmx1 (And.intro hS15 hg15))))
        clear hr1 hA1 hd1 hb15 hv1 hmx1 hS15 hg15 hS14 hg14 yT
        go_wp2_with fail
        refine (rparts_walk K HKK.out.2.2 (parts_inv HKK.out.2.2) (.slice va M vc) W15 H15.out.2.2.2.2).mono ?_
        rintro e W16 ⟨d2, p2, h2, rfl, hr2, hA2, hd2, hb16⟩
        have hv2 := fun u (hu : u < K.n) => parts_val HKK.out.2.2 hA2.2 hu
        have hmx2 := parts_mx HKK.out.2.2 hA2
        rw [HKK.out.2.1] at hr2 hv2 hmx2 ⊢
        have hmx3 : mxF h2 M = (sh * cnt (ptR G) G.n : Nat) := by
          rw [hmx2, HKK.out.1, HM.out, parts_copies HEN.out.ok]
        have hS16 := H15.out.2.2.2.1.below hb16
        have y0 := hS16.c0
        have yT := (hb16.cell (p := ⟨T, 0, none⟩) (lt_of_cell yT2)).trans yT2
        have hg16 := (H15.out.2.2.2.2.below hb16).mono hb16.size
        have hr1 := rowIs_kept H15.out.1 (below_grown hb16 (Nat.le_refl _) none) (by simp)
        have H16 := Lib.hid (And.intro hr1 (And.intro H15.out.2.1 (And.intro H15.out.2.2.1 (And.intro hr2 (And.intro hv2 (And.intro hmx3 (And.intro hS16 hg16)))))))
        clear hr2 hA2 hd2 hb16 hv2 hmx2 hmx3 hS16 hg16 hr1 H15 yT2
        go_wp2
        go_loopw [157, 23] (fun i m wr => ∃ (j : Nat), j ≤ G.n ∧ i = .int .i64 j ∧ m = .int .i64 (mxF h1 j) ∧ wr = W16) (fun i _ _ => G.n - (intOf i).toNat)
        case atStart => exact ⟨0, by omega, rfl, rfl, rfl⟩
        case round =>
          obtain ⟨j, hj, rfl, rfl, rfl⟩ := hrel
          rcases Nat.lt_or_ge j G.n with hjn | hjn
          · have cj := H16.out.1.cell hjn
            have hvj := H16.out.2.1 j hjn
            obtain ⟨x, hx⟩ : ∃ x, x = h1 j := ⟨_, rfl⟩
            rw [← hx] at cj hvj
            have qx : IntKind.i64.wrap (x + 1) = x + 1 := IntWalk.i64_in _ (by omega)
            have hmx : mxF h1 (j + 1) = max (mxF h1 j) (x + 1) := by rw [mxF, hx]
            have HX := Lib.hid hmx
            clear hmx hx
            have j0 : 0 ≤ (j : Int) := by omega
            have jn : (j : Int) < (G.n : Int) := by omega
            go_wp2
            exact ⟨⟨j + 1, by omega, by simp, by rw [HX.out], trivial⟩, by simp [intOf]; omega⟩
          · obtain rfl : j = G.n := by omega
            obtain ⟨nP, hnP⟩ : ∃ nP, nP = cnt (ptR G) G.n := ⟨_, rfl⟩
            obtain ⟨mP, hmP⟩ : ∃ mP, mP = sh * nP := ⟨_, rfl⟩
            obtain ⟨e1, he1⟩ : ∃ e1, e1 = eulI G := ⟨_, rfl⟩
            obtain ⟨e2, he2⟩ : ∃ e2, e2 = eulI K := ⟨_, rfl⟩
            have hee : (sh : Int) * e1 = e2 := by
              rw [he1, he2, HKK.out.1]
              exact (eul_copies HEN.out.ok (fun _ i _ _ => rfl) (fun _ i _ hi => invP_id hi)).symm
            have hb1 : -200 ≤ e1 ∧ e1 ≤ 200 := by
              have c1 := cnt_le' (lp (vtF G) id (4 * G.n)) (4 * G.n)
              have c2 := cnt_le' (lp (erF G) id (4 * G.n)) (6 * G.n)
              have c3 := cnt_le' (lp (trF G) id (4 * G.n)) (4 * G.n)
              rw [he1, eulI]; omega
            have hb2 : -2000 ≤ e2 ∧ e2 ≤ 2000 := by
              rw [← hee]
              have hs : sh = 1 ∨ sh = 2 ∨ sh = 3 ∨ sh = 4 ∨ sh = 5 ∨ sh = 6 := by omega
              rcases hs with h | h | h | h | h | h <;> rw [h] <;> omega
            have qe : IntKind.i64.wrap ((sh : Int) * e1) = e2 := by rw [hee]; exact IntWalk.i64_in _ (by omega)
            have hb3 : mP ≤ 72 := by
              have c1 := cnt_le' (ptR G) G.n
              have : sh * nP ≤ 6 * 12 := Nat.mul_le_mul (by omega) (by omega)
              omega
            have qp : IntKind.i64.wrap ((sh : Int) * (nP : Int)) = (mP : Int) := by
              have : (sh : Int) * (nP : Int) = ((sh * nP : Nat) : Int) := by push_cast; rfl
              rw [this, ← hmP]; exact IntWalk.i64_in _ (by omega)
            have hx1 : mxF h1 G.n = (nP : Int) := by rw [H16.out.2.2.1, hnP]
            have hx2 : mxF h2 M = (mP : Int) := by rw [H16.out.2.2.2.2.2.1, hmP, hnP]
            have HX2 := Lib.hid hx2
            have r17 := fun W (hb : Below wr.heap.size wr W) => (reuler_walk G HEN.out.ok W (.slice a G.n cap) ((HG.out.below (H16.out.2.2.2.2.2.2.1.below hb).bel).mono (by have := (H16.out.2.2.2.2.2.2.1.below hb).bel.size; omega)))
            have k17 := fun W (hb : Below wr.heap.size wr W) => (reuler_walk K HKK.out.2.2 W (.slice va M vc) ((H16.out.2.2.2.2.2.2.2.below hb).mono hb.size))
            rw [← he1] at r17
            rw [← he2] at k17
            have HR := Lib.hid (And.intro r17 k17)
            clear hnP hmP he1 he2 hee hb1 hb2 hb3 hx2 r17 k17
            rw [hx1]
            clear hx1
            go_wp2
            go_loopw [168, 24] (fun i m wz => ∃ (j : Nat), j ≤ M ∧ i = .int .i64 j ∧ m = .int .i64 (mxF h2 j) ∧ wz = wr) (fun i _ _ => M - (intOf i).toNat)
            case atStart => exact ⟨0, by omega, rfl, rfl, rfl⟩
            case round =>
              obtain ⟨j, hj, rfl, rfl, rfl⟩ := hrel
              rcases Nat.lt_or_ge j M with hjn | hjn
              · have cj := H16.out.2.2.2.1.cell hjn
                have hvj := H16.out.2.2.2.2.1 j hjn
                obtain ⟨x, hx⟩ : ∃ x, x = h2 j := ⟨_, rfl⟩
                rw [← hx] at cj hvj
                have qx : IntKind.i64.wrap (x + 1) = x + 1 := IntWalk.i64_in _ (by omega)
                have hmx : mxF h2 (j + 1) = max (mxF h2 j) (x + 1) := by rw [mxF, hx]
                have HX := Lib.hid hmx
                clear hmx hx
                have j0 : 0 ≤ (j : Int) := by omega
                have jn : (j : Int) < (M : Int) := by omega
                go_wp2
                exact ⟨⟨j + 1, by omega, by simp, by rw [HX.out], trivial⟩, by simp [intOf]; omega⟩
              · obtain rfl : j = M := by omega
                rw [HX2.out]
                have z0 := fun W (hb : Below wr.heap.size wr W) => And.intro ((hb.cell (p := ⟨N, 0, none⟩) (lt_of_cell y0)).trans y0) ((hb.cell (p := ⟨T, 0, none⟩) (lt_of_cell yT)).trans yT)
                have HZ0 := Lib.hid z0
                have HBN := Lib.hid (fun W (hb : Below wr.heap.size wr W) => (H16.out.2.2.2.2.2.2.1.below hb).bel)
                clear z0
                go_wp2
                go_region_held3 (fun w' => w'.cell? ⟨N, 0, none⟩ = some (.slice a G.n cap) ∧ w'.cell? ⟨T, 0, none⟩ = some (.slice va j vc))
                  (exact HZ0.out _ (by (repeat' (first | assumption | exact Below.refl _ _ | refine below_then ?_ (by assumption) | refine below_al ?_ _ | refine below_dr ?_ | refine below_sc ?_ (by simp <;> omega) _))))
                  (first
                    | (go_at_call 9; (with_reducible refine (sane_walk _).mono ?_); rintro e w1 ⟨rfl, hb1⟩)
                    | (go_at_call 17; (with_reducible refine (HR.out.1 _ (by (repeat' (first | assumption | exact Below.refl _ _ | refine below_then ?_ (by assumption) | refine below_al ?_ _ | refine below_dr ?_ | refine below_sc ?_ (by simp <;> omega) _)))).mono ?_); rintro e w2 ⟨rfl, hb2⟩)
                    | (go_at_call 17; (with_reducible refine (HR.out.2 _ (by (repeat' (first | assumption | exact Below.refl _ _ | refine below_then ?_ (by assumption) | refine below_al ?_ _ | refine below_dr ?_ | refine below_sc ?_ (by simp <;> omega) _)))).mono ?_); rintro e w3 ⟨rfl, hb3⟩))
                all_goals go_wp2
                all_goals go_ret
                all_goals exact ⟨rfl, HBN.out _ (by (repeat' (first | assumption | exact Below.refl _ _ | refine below_then ?_ (by assumption) | refine below_al ?_ _ | refine below_dr ?_ | refine below_sc ?_ (by simp <;> omega) _)))⟩
  · have q1 : (c != 0) = true := by simpa using hc
    have hbb : ∀ o, Below N w (W1.alloc o) := fun o => HBW.out.alloc (by omega) _
    have HBB := Lib.hid hbb
    clear hans hbb hc
    go_wp2_with ((go_at_call 9; (with_reducible refine (sane_walk _).mono ?_); rintro e w4 ⟨rfl, hb4⟩; have HB4 := Lib.hid ((HBB.out _).trans (hb4.mono (by simp; omega))); clear hb4))
    go_ret
    exact ⟨rfl, HB4.out⟩
end
end Go.Proofs.Ytlckpgahijlmoaa
