/- The law CoverComposes: its walk. -/
import Derived.Test.YtlckpgahijlmoaaQ50
import Derived.Test.YtlckpgahijlmoaaQ18
import Derived.Test.YtlckpgahijlmoaaQ51
import Derived.Test.YtlckpgahijlmoaaQ36
import Derived.Test.YtlckpgahijlmoaaQ14
namespace Go.Proofs.Ytlckpgahijlmoaa
open Go.RowKit Go.Shelf Go.Maps

/-- the sheets of what Compose answers -/
noncomputable def cmpS (G : Gl) (sh : Int) (np : Nat) (len : Nat → Nat) (fp : Nat → Nat → Int) (sh2 : Int) (np2 : Nat) (len2 : Nat → Nat) (fp2 : Nat → Nat → Int) : Int := if cmpI G sh np len fp sh2 np2 len2 fp2 = 0 then ((sh.toNat * sh2.toNat : Nat) : Int) else 0
/-- how many lists Compose answers -/
noncomputable def cmpN (G : Gl) (sh : Int) (np : Nat) (len : Nat → Nat) (fp : Nat → Nat → Int) (sh2 : Int) (np2 : Nat) (len2 : Nat → Nat) (fp2 : Nat → Nat → Int) : Nat := if cmpI G sh np len fp sh2 np2 len2 fp2 = 0 then nF G else 0
section
variable {G : Gl} {sh : Int} {np : Nat} {len : Nat → Nat} {fp : Nat → Nat → Int} {sh2 : Int} {np2 : Nat} {len2 : Nat → Nat} {fp2 : Nat → Nat → Int}
theorem CmpAns.two {e : Ending} {w' : World} (h : CmpAns G sh np len fp sh2 np2 len2 fp2 e w') : ∃ a c, e = .returned (.tuple #[.agg #[.int .i64 (cmpS G sh np len fp sh2 np2 len2 fp2), .slice a (cmpN G sh np len fp sh2 np2 len2 fp2) c], .int .i64 (cmpI G sh np len fp sh2 np2 len2 fp2)]) ∧
    LLs w'.heap.size w' (.slice a (cmpN G sh np len fp sh2 np2 len2 fp2) c) (cmpN G sh np len fp sh2 np2 len2 fp2) (fun _ => (cmpS G sh np len fp sh2 np2 len2 fp2).toNat) (cmpF G sh fp sh2 fp2) := by
  obtain ⟨s, pv, rfl, ⟨h0, rfl, rfl⟩ | ⟨h0, rfl, hl⟩⟩ := h
  · have e1 : cmpS G sh np len fp sh2 np2 len2 fp2 = 0 := if_neg h0
    have e2 : cmpN G sh np len fp sh2 np2 len2 fp2 = 0 := if_neg h0
    rw [e1, e2]
    exact ⟨none, 0, rfl, none, 0, 0, 0, rfl, fun h => absurd h (Nat.lt_irrefl 0), fun k hk => absurd hk (Nat.not_lt_zero k)⟩
  · have e1 : cmpS G sh np len fp sh2 np2 len2 fp2 = ((sh.toNat * sh2.toNat : Nat) : Int) := if_pos h0
    have e2 : cmpN G sh np len fp sh2 np2 len2 fp2 = nF G := if_pos h0
    rw [e1, e2, Int.toNat_natCast]
    obtain ⟨a, _, _, c, rfl, _⟩ := id hl
    exact ⟨a, c, rfl, hl⟩
theorem cmp_zero (h : cmpI G sh np len fp sh2 np2 len2 fp2 = 0) : rerI G sh np len fp = 0 ∧ rerI (covG G fp (fun k => invP (fp k) sh.toNat) sh.toNat) sh2 np2 len2 fp2 = 0 ∧ sh.toNat * sh2.toNat ≤ 24 := by
  unfold cmpI at h
  by_cases h0 : rerI G sh np len fp = 0
  · rw [if_pos h0] at h
    by_cases h1 : rerI (covG G fp (fun k => invP (fp k) sh.toNat) sh.toNat) sh2 np2 len2 fp2 = 0
    · rw [if_pos h1] at h
      by_cases h2 : 24 < sh.toNat * sh2.toNat
      · rw [if_pos h2] at h; cases h
      · exact ⟨h0, h1, by omega⟩
    · rw [if_neg h1] at h; cases h
  · rw [if_neg h0] at h; exact absurd h h0
theorem cmpS_small : (cmpS G sh np len fp sh2 np2 len2 fp2).toNat ≤ 24 := by
  unfold cmpS
  split
  · rename_i h; rw [Int.toNat_natCast]; exact (cmp_zero h).2.2
  · decide
theorem cmpN_small : cmpN G sh np len fp sh2 np2 len2 fp2 ≤ 4 * G.n := by
  unfold cmpN
  split
  · exact cnt_le _ _
  · omega
/-- the composition may be made -/
theorem cmp_make (h : cmpI G sh np len fp sh2 np2 len2 fp2 = 0) : rerI G (cmpS G sh np len fp sh2 np2 len2 fp2) (cmpN G sh np len fp sh2 np2 len2 fp2) (fun _ => (cmpS G sh np len fp sh2 np2 len2 fp2).toNat) (cmpF G sh fp sh2 fp2) = 0 := by
  obtain ⟨h1, h2, h3⟩ := cmp_zero h
  have e1 : cmpS G sh np len fp sh2 np2 len2 fp2 = ((sh.toNat * sh2.toNat : Nat) : Int) := if_pos h
  have e2 : cmpN G sh np len fp sh2 np2 len2 fp2 = nF G := if_pos h
  rw [e1, e2, Int.toNat_natCast]
  obtain ⟨hok, hcov⟩ := rerI_zero h1
  obtain ⟨-, hcov2⟩ := rerI_zero h2
  have hask : askI G = 0 := by
    by_cases q : askI G = 0
    · exact q
    · unfold rerI at h1; rw [if_neg q] at h1; exact absurd h1 q
  exact (rerI_is hask).2 ((cov_iff hok _ _ _ _).1 (cmp_ok hok hcov hcov2 h3))
/-- its gluing is that of the covering of the covering -/
theorem cmp_same (h : cmpI G sh np len fp sh2 np2 len2 fp2 = 0) {B : Nat} {W : World} {v : Value} (hg : GlAt B W v (covG G (cmpF G sh fp sh2 fp2) (fun k => invP (cmpF G sh fp sh2 fp2 k) (cmpS G sh np len fp sh2 np2 len2 fp2).toNat) (cmpS G sh np len fp sh2 np2 len2 fp2).toNat)) :
    GlAt B W v (covG (covG G fp (fun k => invP (fp k) sh.toNat) sh.toNat) fp2 (fun k => invP (fp2 k) sh2.toNat) sh2.toNat) := by
  obtain ⟨h1, h2, -⟩ := cmp_zero h
  have e1 : cmpS G sh np len fp sh2 np2 len2 fp2 = ((sh.toNat * sh2.toNat : Nat) : Int) := if_pos h
  rw [e1, Int.toNat_natCast] at hg
  obtain ⟨hok, hcov⟩ := rerI_zero h1
  obtain ⟨-, hcov2⟩ := rerI_zero h2
  have hn : sh.toNat * sh2.toNat * G.n = sh2.toNat * (sh.toNat * G.n) := by rw [Nat.mul_comm sh.toNat, Nat.mul_assoc]
  refine hg.congr hn (fun k hk => ?_) (fun k hk i _ => ?_)
  · exact (cmp_gluing hok hcov.sh hcov.small.2 hcov2.sh (by rw [← hn]; exact hk)).1.symm
  · exact congrFun (cmp_gluing hok hcov.sh hcov.small.2 hcov2.sh (by rw [← hn]; exact hk)).2.symm i
theorem cmp_small (h : cmpI G sh np len fp sh2 np2 len2 fp2 = 0) : (covG (covG G fp (fun k => invP (fp k) sh.toNat) sh.toNat) fp2 (fun k => invP (fp2 k) sh2.toNat) sh2.toNat).n ≤ 1000 := (rerI_zero (cmp_zero h).2.1).2.small.2
end
/-- the boxes of the law: the gluing and the coverings -/
structure CS (w : World) (N : Nat) (a : Option Addr) (n cap : Nat) (S : Int) (pa : Option Addr) (np pc : Nat) (T : Int) (pa2 : Option Addr) (np2 pc2 : Nat) (W : World) : Prop where
  bel : Below N w W
  c0 : W.cell? ⟨N, 0, none⟩ = some (.slice a n cap)
  c1 : W.cell? ⟨N + 1, 0, none⟩ = some (.int .i64 S)
  c2 : W.cell? ⟨N + 1, 1, none⟩ = some (.slice pa np pc)
  c3 : W.cell? ⟨N + 1 + 1, 0, none⟩ = some (.int .i64 T)
  c4 : W.cell? ⟨N + 1 + 1, 1, none⟩ = some (.slice pa2 np2 pc2)
theorem CS.below {w W W' : World} {N : Nat} {a : Option Addr} {n cap : Nat} {S : Int} {pa : Option Addr} {np pc : Nat} {T : Int} {pa2 : Option Addr} {np2 pc2 : Nat} (h : CS w N a n cap S pa np pc T pa2 np2 pc2 W) (hb : Below W.heap.size W W') : CS w N a n cap S pa np pc T pa2 np2 pc2 W' := by
  have hg := below_grown hb (Nat.le_refl _) none
  have hN := lt_of_cell h.c0
  simp only at hN
  exact ⟨h.bel.trans (hb.mono (by omega)), hg.cell h.c0 (by simp), hg.cell h.c1 (by simp), hg.cell h.c2 (by simp), hg.cell h.c3 (by simp), hg.cell h.c4 (by simp)⟩
/-- a covering in a box -/
structure CJ (W : World) (D : Nat) (s : Int) (a : Option Addr) (n c : Nat) (l : Nat → Nat) (f : Nat → Nat → Int) : Prop where
  c0 : W.cell? ⟨D, 0, none⟩ = some (.int .i64 s)
  c1 : W.cell? ⟨D, 1, none⟩ = some (.slice a n c)
  ll : LLs W.heap.size W (.slice a n c) n l f
theorem CJ.below {W W' : World} {D : Nat} {s : Int} {a : Option Addr} {n c : Nat} {l : Nat → Nat} {f : Nat → Nat → Int} (h : CJ W D s a n c l f) (hb : Below W.heap.size W W') : CJ W' D s a n c l f :=
  ⟨(below_grown hb (Nat.le_refl _) none).cell h.c0 (by simp), (below_grown hb (Nat.le_refl _) none).cell h.c1 (by simp), (h.ll.below hb).mono hb.size⟩
/-- a gluing in a box -/
structure CX (W : World) (D : Nat) (ua : Option Addr) (uc : Nat) (H : Gl) : Prop where
  c : W.cell? ⟨D, 0, none⟩ = some (.slice ua H.n uc)
  g : GlAt W.heap.size W (.slice ua H.n uc) H
theorem CX.below {W W' : World} {D : Nat} {ua : Option Addr} {uc : Nat} {H : Gl} (h : CX W D ua uc H) (hb : Below W.heap.size W W') : CX W' D ua uc H :=
  ⟨(below_grown hb (Nat.le_refl _) none).cell h.c (by simp), (h.g.below hb).mono hb.size⟩
section
variable (G : Gl) (v : Value) (S : Int) (pv : Value) (np : Nat) (len : Nat → Nat) (fp : Nat → Nat → Int) (S2 : Int) (pv2 : Value) (np2 : Nat) (len2 : Nat → Nat) (fp2 : Nat → Nat → Int) (w : World) (hG : GlAt w.heap.size w v G) (hm : G.n ≤ 9223372036854775807) (hpv : LLc w.heap.size w pv np len fp) (hlen : ∀ k, k < np → len k < 4611686018427387904) (hnp : np < 4611686018427387904) (hpv2 : LLc w.heap.size w pv2 np2 len2 fp2) (hlen2 : ∀ k, k < np2 → len2 k < 4611686018427387904) (hnp2 : np2 < 4611686018427387904)
include hG hm hpv hlen hnp hpv2 hlen2 hnp2
set_option maxRecDepth 100000 in
set_option maxHeartbeats 4000000 in
theorem composes_walk : Calls Try.prog 4 #[.agg #[v], .agg #[.int .i64 S, pv], .agg #[.int .i64 S2, pv2]] w fun e w' => e = .returned (.bool true) ∧ Below w.heap.size w w' := by
  obtain ⟨a, cap, rfl⟩ : ∃ a c, v = .slice a G.n c := by obtain ⟨a, _, _, c, e, _⟩ := hG; exact ⟨a, c, e⟩
  obtain ⟨pa, pc, rfl⟩ : ∃ a c, pv = .slice a np c := by obtain ⟨a, _, _, c, e, _⟩ := hpv; exact ⟨a, c, e⟩
  obtain ⟨pa2, pc2, rfl⟩ : ∃ a c, pv2 = .slice a np2 c := by obtain ⟨a, _, _, c, e, _⟩ := hpv2; exact ⟨a, c, e⟩
  have hat := fun W (h : CS w w.heap.size a G.n cap S pa np pc S2 pa2 np2 pc2 W) =>
    And.intro ((hG.below h.bel).mono h.bel.size : GlAt W.heap.size W (.slice a G.n cap) G) (And.intro ((hpv.below h.bel).mono h.bel.size : LLc W.heap.size W (.slice pa np pc) np len fp) ((hpv2.below h.bel).mono h.bel.size : LLc W.heap.size W (.slice pa2 np2 pc2) np2 len2 fp2))
  have HLN := Lib.hid (And.intro hlen hlen2)
  clear hG hpv hpv2 hlen hlen2
  generalize hN : w.heap.size = N at *
  have HA := Lib.hid hat
  clear hat
  go_enter Try.func4, Try.ntmps4
  have hb0 : ∀ o1 o2 o3, Below w.heap.size w (((w.alloc o1).alloc o2).alloc o3) := fun o1 o2 o3 => by (repeat' (first | assumption | exact Below.refl _ _ | refine below_then ?_ (by assumption) | refine below_al ?_ _ | refine below_dr ?_ | refine below_sc ?_ (by simp <;> omega) _))
  rw [hN] at hb0
  have HB0 := Lib.hid hb0
  clear hb0
  rcases Nat.lt_or_ge 12 G.n with g0 | g0
  · have q0 : decide ((12 : Int) < (G.n : Int)) = true := by simp; omega
    go_wp2_with ((go_at_call 9; (with_reducible refine (sane_walk _).mono ?_); rintro e w4 ⟨rfl, hb4⟩; have HB4 := Lib.hid ((HB0.out _ _ _).trans (hb4.mono (by simp; omega))); clear hb4))
    go_ret
    exact ⟨rfl, HB4.out⟩
  have q0 : decide ((12 : Int) < (G.n : Int)) = false := by simp; omega
  go_wp2_with fail
  refine wp_world_named fun W0 hW => ?_
  have h0 : CS w N a G.n cap S pa np pc S2 pa2 np2 pc2 W0 := by
    rw [hW]; exact ⟨HB0.out _ _ _, by subst hN; simp [go_sem], by subst hN; simp [go_sem], by subst hN; simp [go_sem], by subst hN; simp [go_sem], by subst hN; simp [go_sem]⟩
  clear hW HB0
  obtain ⟨cs, hcs⟩ : ∃ x, x = cmpS G S np len fp S2 np2 len2 fp2 := ⟨_, rfl⟩
  obtain ⟨cn, hcn⟩ : ∃ x, x = cmpN G S np len fp S2 np2 len2 fp2 := ⟨_, rfl⟩
  obtain ⟨ci, hci⟩ : ∃ x, x = cmpI G S np len fp S2 np2 len2 fp2 := ⟨_, rfl⟩
  have hcs24 : cs.toNat ≤ 24 := by rw [hcs]; exact cmpS_small
  have hcn48 : cn ≤ 48 := by have := cmpN_small (G := G) (sh := S) (np := np) (len := len) (fp := fp) (sh2 := S2) (np2 := np2) (len2 := len2) (fp2 := fp2); omega
  have HCE := Lib.hid (And.intro hcs (And.intro hcn hci))
  clear hcs hcn hci
  refine (rcomp_walk G _ S _ np len fp S2 _ np2 len2 fp2 W0 (HA.out _ h0).1 hm (HA.out _ h0).2.1 HLN.out.1 hnp (HA.out _ h0).2.2 HLN.out.2 hnp2).mono ?_
  rintro e W1 ⟨hb1, hans⟩
  obtain ⟨xa, xc, rfl, hll⟩ := hans.two
  rw [← HCE.out.1, ← HCE.out.2.1] at hll
  rw [← HCE.out.1, ← HCE.out.2.1, ← HCE.out.2.2]
  have h1 := h0.below hb1
  have y0 := cell_al h1.c0
  have y1 := cell_al h1.c1
  have y2 := cell_al h1.c2
  have y3 := cell_al h1.c3
  have y4 := cell_al h1.c4
  have H1 := Lib.hid (And.intro h1 hll)
  clear h0 hb1 hans hll h1
  go_wp2_with fail
  refine wp_world_named fun W2 hW => ?_
  obtain ⟨D, hD⟩ : ∃ D, D = W1.heap.size := ⟨_, rfl⟩
  rw [← hD]
  have hb2 : Below W1.heap.size W1 W2 := by rw [hW]; (repeat' (first | assumption | exact Below.refl _ _ | refine below_then ?_ (by assumption) | refine below_al ?_ _ | refine below_dr ?_ | refine below_sc ?_ (by simp <;> omega) _))
  have h2 := H1.out.1.below hb2
  have hx2 : CJ W2 D cs xa cn xc (fun _ => cs.toNat) (cmpF G S fp S2 fp2) := ⟨by rw [hW, hD]; simp [go_sem], by rw [hW, hD]; simp [go_sem], (H1.out.2.below hb2).mono hb2.size⟩
  clear hW hD hb2 H1 y0 y1 y2 y3 y4
  refine (ccomp_walk G _ S _ np len fp S2 _ np2 len2 fp2 W2 (HA.out _ h2).1 hm (HA.out _ h2).2.1.LLs HLN.out.1 hnp (HA.out _ h2).2.2.LLs HLN.out.2 hnp2).mono ?_
  rintro e W3 ⟨hb3, hans⟩
  obtain ⟨za, zc, rfl, hll⟩ := hans.two
  rw [← HCE.out.1, ← HCE.out.2.1] at hll
  rw [← HCE.out.1, ← HCE.out.2.1, ← HCE.out.2.2]
  have h3 := h2.below hb3
  have hx3 := hx2.below hb3
  have H3 := Lib.hid (And.intro h3 (And.intro hx3 hll))
  have y0 := cell_al h3.c0
  have y1 := cell_al hx3.c0
  have y2 := cell_al hx3.c1
  clear h2 hb3 hans hll h3 hx2 hx3
  go_wp2_with fail
  refine wp_world_named fun W4 hW => ?_
  obtain ⟨E, hE⟩ : ∃ E, E = W3.heap.size := ⟨_, rfl⟩
  rw [← hE]
  have hb4 : Below W3.heap.size W3 W4 := by rw [hW]; (repeat' (first | assumption | exact Below.refl _ _ | refine below_then ?_ (by assumption) | refine below_al ?_ _ | refine below_dr ?_ | refine below_sc ?_ (by simp <;> omega) _))
  have h4 := H3.out.1.below hb4
  have hx4 := H3.out.2.1.below hb4
  have hz4 : CJ W4 E cs za cn zc (fun _ => cs.toNat) (cmpF G S fp S2 fp2) := ⟨by rw [hW, hE]; simp [go_sem], by rw [hW, hE]; simp [go_sem], (H3.out.2.2.below hb4).mono hb4.size⟩
  clear hW hE hb4 H3 y0 y1 y2
  refine (rsame_walk cs cn (fun _ => cs.toNat) (cmpF G S fp S2 fp2) (by omega) (fun _ _ => by show cs.toNat < _; omega) W4.heap.size W4 (Nat.le_refl _) _ _ hz4.ll hx4.ll).mono ?_
  rintro e W5 ⟨rfl, hb5⟩
  have h5 := h4.below hb5
  have hz5 := hz4.below hb5
  clear h4 hx4 hz4 hb5
  by_cases hz : ci = 0
  · subst hz
    have hc0 : cmpI G S np len fp S2 np2 len2 fp2 = 0 := HCE.out.2.2.symm
    obtain ⟨hr1, hr2, -⟩ := cmp_zero hc0
    have hmk3 := cmp_make hc0
    rw [← HCE.out.1, ← HCE.out.2.1] at hmk3
    obtain ⟨H, hH⟩ : ∃ H, H = covG G fp (fun k => invP (fp k) S.toNat) S.toNat := ⟨_, rfl⟩
    rw [← hH] at hr2
    obtain ⟨K, hK⟩ : ∃ K, K = covG H fp2 (fun k => invP (fp2 k) S2.toNat) S2.toNat := ⟨_, rfl⟩
    have hHm : H.n ≤ 1000 := by rw [hH]; exact (rerI_zero hr1).2.small.2
    have hKm : K.n ≤ 1000 := by rw [hK, hH]; exact cmp_small hc0
    have HRR := Lib.hid (And.intro hc0 (And.intro hr1 (And.intro hr2 (And.intro hmk3 (And.intro hH hK)))))
    clear hc0 hr1 hr2 hmk3 hH hK
    have y0 := h5.c0
    have y1 := h5.c1
    have y2 := h5.c2
    have H5 := Lib.hid (And.intro h5 hz5)
    clear h5 hz5
    go_wp2_with fail
    refine (coverMake_walk G _ S _ np len fp W5 (HA.out _ H5.out.1).1 hm (HA.out _ H5.out.1).2.1.LLs HLN.out.1 hnp).mono ?_
    rintro e W6 ⟨hb6, c6, u6, rfl, herr, hu⟩
    obtain rfl : c6 = 0 := (asked_rerI herr).trans HRR.out.2.1
    have hgl : GlAt W6.heap.size W6 u6 H := by
      rcases hu with ⟨h, _⟩ | ⟨_, _, h⟩
      · exact absurd rfl h
      · rw [HRR.out.2.2.2.2.1]; exact h
    obtain ⟨ha, hc, rfl⟩ : ∃ a c, u6 = .slice a H.n c := by obtain ⟨a, _, _, c, e, _⟩ := hgl; exact ⟨a, c, e⟩
    have h6 := H5.out.1.below hb6
    clear y0 y1 y2
    have y3 := cell_al h6.c3
    have y4 := cell_al h6.c4
    have H6 := Lib.hid (And.intro h6 (And.intro (H5.out.2.below hb6) hgl))
    clear hb6 herr hu hgl h6 H5
    go_wp2_with fail
    refine wp_world_named fun W7 hW => ?_
    obtain ⟨F, hF⟩ : ∃ F, F = W6.heap.size := ⟨_, rfl⟩
    rw [← hF]
    have hb7 : Below W6.heap.size W6 W7 := by rw [hW]; (repeat' (first | assumption | exact Below.refl _ _ | refine below_then ?_ (by assumption) | refine below_al ?_ _ | refine below_dr ?_ | refine below_sc ?_ (by simp <;> omega) _))
    have h7 := H6.out.1.below hb7
    have hz7 := H6.out.2.1.below hb7
    have hh7 : CX W7 F ha hc H := ⟨by rw [hW, hF]; simp [go_sem], (H6.out.2.2.below hb7).mono hb7.size⟩
    clear hW hF hb7 H6 y3 y4
    refine (coverMake_walk H _ S2 _ np2 len2 fp2 W7 hh7.g (by omega) (HA.out _ h7).2.2.LLs HLN.out.2 hnp2).mono ?_
    rintro e W8 ⟨hb8, c8, u8, rfl, herr, hu⟩
    obtain rfl : c8 = 0 := (asked_rerI herr).trans HRR.out.2.2.1
    have hgl : GlAt W8.heap.size W8 u8 K := by
      rcases hu with ⟨h, _⟩ | ⟨_, _, h⟩
      · exact absurd rfl h
      · rw [HRR.out.2.2.2.2.2]; exact h
    obtain ⟨ka, kc, rfl⟩ : ∃ a c, u8 = .slice a K.n c := by obtain ⟨a, _, _, c, e, _⟩ := hgl; exact ⟨a, c, e⟩
    have h8 := h7.below hb8
    have hz8 := hz7.below hb8
    have y0 := cell_al h8.c0
    have y1 := cell_al hz8.c0
    have y2 := cell_al hz8.c1
    have H8 := Lib.hid (And.intro h8 (And.intro hz8 hgl))
    clear hb8 herr hu hgl h8 hz8 h7 hz7 hh7
    go_wp2_with fail
    refine wp_world_named fun W9 hW => ?_
    obtain ⟨J, hJ⟩ : ∃ J, J = W8.heap.size := ⟨_, rfl⟩
    rw [← hJ]
    have hb9 : Below W8.heap.size W8 W9 := by rw [hW]; (repeat' (first | assumption | exact Below.refl _ _ | refine below_then ?_ (by assumption) | refine below_al ?_ _ | refine below_dr ?_ | refine below_sc ?_ (by simp <;> omega) _))
    have h9 := H8.out.1.below hb9
    have hz9 := H8.out.2.1.below hb9
    have hk9 : CX W9 J ka kc K := ⟨by rw [hW, hJ]; simp [go_sem], (H8.out.2.2.below hb9).mono hb9.size⟩
    clear hW hJ hb9 H8 y0 y1 y2
    refine (coverMake_walk G _ cs _ cn (fun _ => cs.toNat) (cmpF G S fp S2 fp2) W9 (HA.out _ h9).1 hm hz9.ll (fun _ _ => by show cs.toNat < _; omega) (by omega)).mono ?_
    rintro e W10 ⟨hb10, c10, u10, rfl, herr, hu⟩
    obtain rfl : c10 = 0 := (asked_rerI herr).trans HRR.out.2.2.2.1
    have hgl : GlAt W10.heap.size W10 u10 K := by
      rcases hu with ⟨h, _⟩ | ⟨_, _, h⟩
      · exact absurd rfl h
      · rw [HRR.out.2.2.2.2.2, HRR.out.2.2.2.2.1]
        rw [HCE.out.1] at h
        exact cmp_same HRR.out.1 h
    obtain ⟨la, lc, rfl⟩ : ∃ a c, u10 = .slice a K.n c := by obtain ⟨a, _, _, c, e, _⟩ := hgl; exact ⟨a, c, e⟩
    have h10 := h9.below hb10
    have hk10 := hk9.below hb10
    have y0 := cell_al h10.c0
    have y1 := cell_al hk10.c
    have H10 := Lib.hid (And.intro h10 (And.intro hk10 hgl))
    clear hb10 herr hu hgl h10 hk10 h9 hz9 hk9
    go_wp2_with fail
    refine wp_world_named fun W11 hW => ?_
    obtain ⟨L, hL⟩ : ∃ L, L = W10.heap.size := ⟨_, rfl⟩
    rw [← hL]
    have hb11 : Below W10.heap.size W10 W11 := by rw [hW]; (repeat' (first | assumption | exact Below.refl _ _ | refine below_then ?_ (by assumption) | refine below_al ?_ _ | refine below_dr ?_ | refine below_sc ?_ (by simp <;> omega) _))
    have hk11 := H10.out.2.1.below hb11
    have hl11 : CX W11 L la lc K := ⟨by rw [hW, hL]; simp [go_sem], (H10.out.2.2.below hb11).mono hb11.size⟩
    have h11 := H10.out.1.below hb11
    clear hW hL hb11 H10 y0 y1
    refine (sane_walk _).mono ?_
    rintro e W12 ⟨rfl, hb12⟩
    have hk12 := hk11.below hb12
    have hl12 := hl11.below hb12
    have h12 := h11.below hb12
    have y0 := hk12.c
    have y1 := hl12.c
    have H12 := Lib.hid (And.intro h12 (And.intro hk12 hl12))
    clear hk12 hl12 h12 hb12 hk11 hl11 h11
    go_wp2_with fail
    refine (Same_walk K (by omega) W12 W12.heap.size _ _ (Nat.le_refl _) H12.out.2.1.g H12.out.2.2.g).mono ?_
    rintro e W13 ⟨rfl, hb13⟩
    have H13 := Lib.hid (H12.out.1.below hb13).bel
    clear hb13 y0 y1
    go_wp2
    go_ret
    exact ⟨rfl, H13.out⟩
  · have q1 : (ci != 0) = true := by simpa using hz
    have HB5 := Lib.hid h5.bel
    have hNs : N ≤ W5.heap.size := by have := h5.bel.size; omega
    clear h5 hz5
    go_wp2_with ((go_at_call 9; (with_reducible refine (sane_walk _).mono ?_); rintro e w4 ⟨rfl, hb4⟩; have HB4 := Lib.hid (HB5.out.trans (hb4.mono hNs)); clear hb4))
    go_ret
    exact ⟨rfl, HB4.out⟩
end
end Go.Proofs.Ytlckpgahijlmoaa
