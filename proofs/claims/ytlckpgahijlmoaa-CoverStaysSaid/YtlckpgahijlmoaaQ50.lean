/- cover's Regular: it returns, and turns nothing. -/
import Derived.Test.YtlckpgahijlmoaaQ48
import Derived.Test.YtlckpgahijlmoaaQ41
namespace Go.Proofs.Ytlckpgahijlmoaa
open Go.RowKit Go.Shelf Go.Maps

theorem covG_tet {G : Gl} (hok : checkB G = true) {f g : Nat → Nat → Int} {sh : Nat}
    (hf : ∀ k, k < nF G → ∀ i, i < sh → 0 ≤ f k i ∧ f k i < sh) (hg : ∀ k, k < nF G → ∀ i, i < sh → 0 ≤ g k i ∧ g k i < sh) {s t fc : Nat} (hs : s < sh) (ht : t < G.n) (hc : fc < 4) (hp : ¬ G.tet (4 * t + fc) < 0) :
    ∃ c, c < sh ∧ G.T (4 * t + fc) < G.n ∧ (covG G f g sh).tet (4 * (s * G.n + t) + fc) = ((c * G.n + G.T (4 * t + fc) : Nat) : Int) := by
  obtain ⟨e1, e2, _⟩ := ok_face hok (show 4 * t + fc < 4 * G.n by omega) hp
  have h1 := (covG_at G f g sh s t fc ht hc).1
  rw [if_neg hp] at h1
  have hk := fN_lt hok (show 4 * t + fc < 4 * G.n by omega)
  have hr : 0 ≤ crF G f g t fc s ∧ crF G f g t fc s < sh := by
    unfold crF
    split
    · exact hf _ hk _ hs
    · exact hg _ hk _ hs
  refine ⟨(crF G f g t fc s).toNat, by omega, e2, ?_⟩
  rw [h1, e1]
  obtain ⟨c, hc⟩ : ∃ c : Nat, crF G f g t fc s = (c : Int) := ⟨_, (Int.toNat_of_nonneg hr.1).symm⟩
  rw [hc]
  simp
theorem covG_over {G : Gl} (hok : checkB G = true) {f g : Nat → Nat → Int} {sh : Nat}
    (hf : ∀ k, k < nF G → ∀ i, i < sh → 0 ≤ f k i ∧ f k i < sh) (hg : ∀ k, k < nF G → ∀ i, i < sh → 0 ≤ g k i ∧ g k i < sh) : Over (covG G f g sh) G.n := by
  have dec : ∀ a, a < sh * G.n → 0 < G.n ∧ a / G.n < sh ∧ a % G.n < G.n ∧ a = a / G.n * G.n + a % G.n := fun a ha => by
    have h0 : 0 < G.n := by
      rcases Nat.eq_zero_or_pos G.n with e | e
      · rw [e] at ha; omega
      · exact e
    exact ⟨h0, Nat.div_lt_of_lt_mul (by rw [Nat.mul_comm]; exact ha), Nat.mod_lt _ h0, by rw [Nat.mul_comm]; exact (Nat.div_add_mod a G.n).symm⟩
  have sg : ∀ a fc, a < sh * G.n → fc < 4 → ((covG G f g sh).tet (4 * a + fc) < 0 ↔ G.tet (4 * (a % G.n) + fc) < 0) := fun a fc ha hc => by
    obtain ⟨_, d1, d2, d3⟩ := dec a ha
    by_cases hp : G.tet (4 * (a % G.n) + fc) < 0
    · have h1 := (covG_at G f g sh (a / G.n) (a % G.n) fc d2 hc).1
      rw [if_pos hp, ← d3] at h1
      rw [h1]
    · obtain ⟨c, _, _, h1⟩ := covG_tet hok hf hg d1 d2 hc hp
      rw [← d3] at h1
      rw [h1]
      exact ⟨fun h => by omega, fun h => absurd h hp⟩
  have vl : ∀ a fc, a < sh * G.n → fc < 4 → ¬ (covG G f g sh).tet (4 * a + fc) < 0 → ∃ c, c < sh ∧ G.T (4 * (a % G.n) + fc) < G.n ∧ (covG G f g sh).tet (4 * a + fc) = ((c * G.n + G.T (4 * (a % G.n) + fc) : Nat) : Int) := fun a fc ha hc hp => by
    obtain ⟨_, d1, d2, d3⟩ := dec a ha
    have h2 := covG_tet hok hf hg d1 d2 hc (fun h => hp ((sg a fc ha hc).2 h))
    rwa [← d3] at h2
  refine ⟨fun K hK hp => ?_, fun a b fc ha hb hc hab => by rw [sg a fc ha hc, sg b fc hb hc, hab], fun a b fc ha hb hc hab hp => ?_⟩
  · change K < 4 * (sh * G.n) at hK
    have hkk : 4 * (K / 4) + K % 4 = K := by omega
    obtain ⟨c, h1, h2, h3⟩ := vl (K / 4) (K % 4) (by omega) (by omega) (by rw [hkk]; exact hp)
    rw [hkk] at h3
    rw [h3]
    show ((_ : Nat) : Int).toNat < sh * G.n
    rw [Int.toNat_natCast]
    calc c * G.n + G.T (4 * (K / 4 % G.n) + K % 4) < c * G.n + G.n := by omega
      _ = (c + 1) * G.n := by rw [Nat.succ_mul]
      _ ≤ sh * G.n := Nat.mul_le_mul_right _ h1
  · obtain ⟨c, _, _, h3⟩ := vl a fc ha hc hp
    obtain ⟨c', _, _, h4⟩ := vl b fc hb hc (by rw [sg b fc hb hc, ← hab, ← sg a fc ha hc]; exact hp)
    rw [h3, h4, hab, Int.toNat_natCast, Int.toNat_natCast, Nat.mul_add_mod_self_right, Nat.mul_add_mod_self_right]

section
variable (G : Gl) (v : Value) (sh : Int) (pv : Value) (np : Nat) (len : Nat → Nat) (fp : Nat → Nat → Int) (w : World) (hG : GlAt w.heap.size w v G) (hm : G.n ≤ 9223372036854775807) (hpv : LLs w.heap.size w pv np len fp) (hlen : ∀ k, k < np → len k < 4611686018427387904) (hnp : np < 4611686018427387904)
include hG hm hpv hlen hnp
set_option maxRecDepth 100000 in
set_option maxHeartbeats 2000000 in
theorem Regular_walk : Calls Try.prog 29 #[.agg #[v], .agg #[.int .i64 sh, pv]] w fun e w' => Below w.heap.size w w' ∧ ∃ b c, e = .returned (.tuple #[.bool b, .int .i64 c]) := by
  have HG := Lib.hid (And.intro hG (And.intro hpv hlen))
  obtain ⟨a, cap, rfl⟩ : ∃ a cap, v = .slice a G.n cap := by obtain ⟨a, _, _, cap, e, _⟩ := hG; exact ⟨a, cap, e⟩
  obtain ⟨pa, pc, rfl⟩ : ∃ a cap, pv = .slice a np cap := by obtain ⟨a, _, _, cap, e, _⟩ := hpv; exact ⟨a, cap, e⟩
  clear hG hpv hlen
  generalize hN : w.heap.size = N at *
  go_enter Try.func29, Try.ntmps29
  go_wp2_with fail
  refine wp_world_named fun W0 hW => ?_
  have h0 : Below N w W0 ∧ W0.cell? ⟨N + 1, 0, none⟩ = some (.int .i64 sh) := by
    rw [hW]; subst hN; exact ⟨by (repeat' (first | assumption | exact Below.refl _ _ | refine below_then ?_ (by assumption) | refine below_al ?_ _ | refine below_dr ?_ | refine below_sc ?_ (by simp <;> omega) _)), by simp [go_sem]⟩
  clear hW
  have hb := h0.1
  have HNN := Lib.hid hN
  have hs0 := hb.size
  refine (asked_walk G (.slice a G.n cap) sh (.slice pa np pc) np len fp W0 ((HG.out.1.below hb).mono (by omega)) hm ((HG.out.2.1.below hb).mono (by omega)) HG.out.2.2 hnp).mono ?_
  rintro e W1 ⟨hb1, h1⟩
  have hbw := hb.trans (hb1.mono (by omega))
  rcases h1.out with ⟨c, hc, rfl, he⟩ | ⟨Cv, B', X, mb, bv, vv, ev, tv, lv, dB, rB, rfl, he, hok, hcov, hCV⟩
  · have HE := Lib.hid hbw
    have q1 : (c != 0) = true := by simpa using hc
    clear hb hb1 h1 hbw he hc hN hs0 h0
    go_wp2
    go_ret2
    exact ⟨HE.out, _, _, rfl⟩
  · have hn : G.n ≤ 1000 := by simp only [checkB, Bool.and_eq_true, decide_eq_true_eq] at hok; exact hok.1
    have hs := hcov.small
    have hO := covG_over hok hcov.range hcov.irange
    have x0 := hCV.sp.c0
    have c0 := hCV.c0
    have y1 := (hb1.cell (p := ⟨N + 1, 0, none⟩) (lt_of_cell h0.2)).trans h0.2
    have hNW : N ≤ W1.heap.size := by have := hbw.size; have := HNN.out; omega
    have h45 := gluing_walk hok hCV (Nat.le_refl _) ((HG.out.1.below hbw).mono hNW) hcov.range hcov.irange (by omega) hs.2
    have hsh : sh = ((sh.toNat : Nat) : Int) := by have := hcov.lo; omega
    have hs1 : 1 ≤ sh.toNat := by have := hcov.lo; omega
    obtain ⟨H, hH⟩ : ∃ H, H = covG G fp (fun k => invP (fp k) sh.toNat) sh.toNat := ⟨_, rfl⟩
    have hHn : H.n = sh.toNat * G.n := by rw [hH]; rfl
    rw [← hH] at h45 hO
    obtain ⟨s, hse⟩ : ∃ s, s = sh.toNat := ⟨_, rfl⟩
    rw [← hse] at hs hHn hsh hs1
    rw [hsh] at y1
    obtain ⟨n, hne⟩ : ∃ n, n = G.n := ⟨_, rfl⟩
    rw [← hne] at hn hs hHn hO x0
    have hHs : H.n ≤ 1000 := by omega
    have HE := Lib.hid (And.intro hbw (And.intro c0 (And.intro y1 (And.intro x0 (And.intro h45 (And.intro hO hHn))))))
    clear hb hb1 h1 hbw he hok hcov hCV hN hs0 h0 h45 hO hH hse hsh hne hHn c0 y1 x0
    go_wp2_with fail
    refine HE.out.2.2.2.2.1.mono ?_
    rintro e W2 ⟨u, rfl, hgl, hb2⟩
    obtain ⟨ga, gc, rfl⟩ : ∃ ga gc, u = .slice ga H.n gc := by obtain ⟨a, _, _, cap, e, _⟩ := hgl; exact ⟨a, cap, e⟩
    have H2 := Lib.hid (And.intro hgl hb2)
    clear hgl hb2
    go_wp2_with fail
    refine wp_world_named fun W3 hW => ?_
    have h3 : Below W2.heap.size W2 W3 ∧ W3.cell? ⟨W2.heap.size, 0, none⟩ = some (.slice ga H.n gc) := by
      rw [hW]; exact ⟨by (repeat' (first | assumption | exact Below.refl _ _ | refine below_then ?_ (by assumption) | refine below_al ?_ _ | refine below_dr ?_ | refine below_sc ?_ (by simp <;> omega) _)), by simp [go_sem]⟩
    clear hW
    have hs3 := h3.1.size
    refine (Parts_walk H (.slice ga H.n gc) W3 ((H2.out.1.below h3.1).mono hs3) (by omega)).mono ?_
    rintro e W4 ⟨rv, pc2, m, hh, rfl, hSI, hm4, hb4⟩
    have y0 := (hb4.cell (p := ⟨W2.heap.size, 0, none⟩) (lt_of_cell h3.2)).trans h3.2
    have hb24 := (H2.out.2.trans (h3.1.mono H2.out.2.size)).trans (hb4.mono (Nat.le_trans H2.out.2.size hs3))
    have st := (H2.out.1.below (h3.1.trans (hb4.mono hs3))).mono (h3.1.trans (hb4.mono hs3)).size
    have HR := Lib.hid (And.intro hb24 (And.intro hSI (And.intro y0 st)))
    clear st
    obtain ⟨ra, rb, ro, rc, rfl, -, -⟩ := hSI
    clear hs3 h3 hb4 hb24 y0
    go_wp2
    go_loopw [33] (fun i wr => ∃ k : Nat, k ≤ m ∧ i = .int .i64 k ∧ wr = W4) (fun i _ => m - (intOf i).toNat)
    case atStart => exact ⟨0, by omega, rfl, rfl⟩
    case round =>
      obtain ⟨k, hk, rfl, rfl⟩ := hrel
      rcases Nat.lt_or_ge k m with hkm | hkm
      · obtain ⟨ra', rb', ro', rc', hre, hr1, hr2⟩ := HR.out.2.1
        obtain ⟨rfl, -, rfl⟩ : ra = ra' ∧ m = m ∧ rc = rc' := by simpa using hre
        obtain ⟨rfl, -⟩ := hr1 (by omega)
        have ck := hr2 k hkm
        generalize hh k = z at *
        clear hr1 hr2 hre
        rcases Decidable.em (z = 0) with rfl | hz
        · go_wp2
          exact ⟨⟨k + 1, by omega, by simp, by simp⟩, by simp [intOf]; omega⟩
        · have q1 : (z != 0) = true := by simpa using hz
          go_wp2
          go_ret2
          exact ⟨HE.out.1.trans (HR.out.1.mono hNW), _, _, rfl⟩
      · obtain rfl : k = m := by omega
        have c0 := (HR.out.1.cell (p := ⟨Cv, 0, none⟩) (lt_of_cell HE.out.2.1)).trans HE.out.2.1
        have x0 := (HR.out.1.cell (p := ⟨X, 0, none⟩) (lt_of_cell HE.out.2.2.2.1)).trans HE.out.2.2.2.1
        go_wp2
        clear c0 x0
        go_loopw [14] (fun i wr => ∃ k : Nat, 1 ≤ k ∧ k ≤ s ∧ i = .int .i64 k ∧ Below W1.heap.size W1 wr ∧ wr.cell? ⟨W2.heap.size, 0, none⟩ = some (.slice ga H.n gc) ∧ GlAt wr.heap.size wr (.slice ga H.n gc) H) (fun i _ => s - (intOf i).toNat)
        case atStart => exact ⟨1, by omega, hs1, rfl, HR.out.1, HR.out.2.2.1, HR.out.2.2.2⟩
        case round =>
          obtain ⟨k, hk1, hks, rfl, hbr, hy, hgr⟩ := hrel
          have z1 := (hbr.cell (p := ⟨N + 1, 0, none⟩) (lt_of_cell HE.out.2.2.1)).trans HE.out.2.2.1
          have HK := Lib.hid (And.intro hbr hgr)
          clear hbr hgr
          rcases Nat.lt_or_ge k s with hlt | hge
          · have q2 : decide ((k : Int) < (s : Int)) = true := by simp; omega
            have hkn : k * n ≤ 1000 := Nat.le_trans (Nat.mul_le_mul_right _ hks) hs.2
            rcases Nat.eq_zero_or_pos n with h0 | h0
            · have q1 : decide ((n : Int) = 0) = true := by simp; omega
              have q3 : ((n : Int) == 0) = true := by simp; omega
              go_wp2
              go_ret2
              exact ⟨HE.out.1.trans (HK.out.1.mono hNW), _, _, rfl⟩
            · have q3 : ((n : Int) == 0) = false := by simp; omega
              have h68 := deck_walk H n (k * n) HE.out.2.2.2.2.2.1 hHs (by rw [HE.out.2.2.2.2.2.2]; exact Nat.mul_lt_mul_of_pos_right hlt h0) (Nat.mul_mod_left _ _) (.slice ga H.n gc) wr HK.out.2
              obtain ⟨L, hL⟩ : ∃ L : Nat, L = k * n := ⟨_, rfl⟩
              rw [← hL] at h68 hkn
              have q4 : IntKind.i64.wrap ((k : Int) * (n : Int)) = (L : Int) := by
                rw [← Int.natCast_mul, ← hL]
                exact IntWalk.i64_in _ (by omega)
              have H68 := Lib.hid h68
              clear h68 hL
              go_wp2_with ((go_at_call 68; (with_reducible refine H68.out.mono ?_); rintro e w5 ⟨⟨b5, rfl⟩, hb5⟩; have hb5x := (HK.out.1.trans (hb5.mono HK.out.1.size)); have hy5 := (hb5.cell (p := ⟨W2.heap.size, 0, none⟩) (lt_of_cell hy)).trans hy; have H5 := Lib.hid (And.intro hb5x (And.intro hy5 ((HK.out.2.below hb5).mono hb5.size))); clear hb5 hb5x hy5))
              · go_ret2
                exact ⟨HE.out.1.trans (H5.out.1.mono hNW), _, _, rfl⟩
              · exact ⟨⟨k + 1, by omega, by omega, by simp, H5.out⟩, by simp [intOf]; omega⟩
          · obtain rfl : k = s := by omega
            have q2 : decide ((k : Int) < (k : Int)) = false := by simp
            go_wp2
            go_ret2
            exact ⟨HE.out.1.trans (HK.out.1.mono hNW), _, _, rfl⟩
end
end Go.Proofs.Ytlckpgahijlmoaa
