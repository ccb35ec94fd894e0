/- R11.Made: the gluing of a covering. -/
import Derived.Test.YtlckpgahijlmoaaQ45
import Derived.Test.YtlckpgahijlmoaaQ43
import Derived.Test.YtlckpgahijlmoaaQ39
import Derived.Test.YtlckpgahijlmoaaQ21
/- R11.Is: whether it is a covering. -/
namespace Go.Proofs.Ytlckpgahijlmoaa
open Go.RowKit Go.Shelf

/-- what R11.Is asks -/
def IsP (G : Gl) (S : Int) (np : Nat) (len : Nat → Nat) (fp : Nat → Nat → Int) : Prop := ShP G S np len fp ∧ ∀ q, q < 6 * G.n → ringOK G fp (fun k => invP (fp k) S.toNat) S.toNat (frS (q / 6) (q % 6))
/-- the boxes of Is -/
structure ISB (w W : World) (N D : Nat) (G : Gl) (ga : Option Addr) (gc s : Nat) (pa : Option Addr) (pc : Nat) (va : Option Addr) (vc : Nat) (ea : Option Addr) (ec : Nat) (ta : Option Addr) (tc : Nat) (da : Option Addr) (dn dc : Nat) (ra : Option Addr) (rn rc : Nat) (la : Option Addr) (ln lc : Nat) (fp : Nat → Nat → Int) : Prop where
  bel : Below N w W
  c0 : W.cell? ⟨N, 0, none⟩ = some (.slice ga G.n gc)
  c1 : W.cell? ⟨N + 1, 0, none⟩ = some (.int .i64 (s : Int))
  c2 : W.cell? ⟨N + 1, 1, none⟩ = some (.slice pa (nF G) pc)
  d0 : W.cell? ⟨D, 0, none⟩ = some (.slice va G.n vc)
  d1 : W.cell? ⟨D, 1, none⟩ = some (.slice ea G.n ec)
  d2 : W.cell? ⟨D, 2, none⟩ = some (.slice ta G.n tc)
  d3 : W.cell? ⟨D, 3, none⟩ = some (.slice da dn dc)
  d4 : W.cell? ⟨D, 4, none⟩ = some (.slice ra rn rc)
  d5 : W.cell? ⟨D, 5, none⟩ = some (.slice la ln lc)
  g : GlAt W.heap.size W (.slice ga G.n gc) G
  sk : SKV W.heap.size W (.agg #[.slice va G.n vc, .slice ea G.n ec, .slice ta G.n tc, .slice da dn dc, .slice ra rn rc, .slice la ln lc]) G
  p : LLs W.heap.size W (.slice pa (nF G) pc) (nF G) (fun _ => s) fp
  lt : N < W.heap.size
theorem ISB.below {w W W' : World} {N D : Nat} {G : Gl} {ga : Option Addr} {gc s : Nat} {pa : Option Addr} {pc : Nat} {va : Option Addr} {vc : Nat} {ea : Option Addr} {ec : Nat} {ta : Option Addr} {tc : Nat} {da : Option Addr} {dn dc : Nat} {ra : Option Addr} {rn rc : Nat} {la : Option Addr} {ln lc : Nat} {fp : Nat → Nat → Int}
    (h : ISB w W N D G ga gc s pa pc va vc ea ec ta tc da dn dc ra rn rc la ln lc fp) (hb : Below W.heap.size W W') : ISB w W' N D G ga gc s pa pc va vc ea ec ta tc da dn dc ra rn rc la ln lc fp := by
  have hg := below_grown hb (Nat.le_refl _) none
  have := h.lt
  have := hb.size
  exact ⟨h.bel.trans (hb.mono (by omega)), hg.cell h.c0 (by simp), hg.cell h.c1 (by simp), hg.cell h.c2 (by simp), hg.cell h.d0 (by simp), hg.cell h.d1 (by simp), hg.cell h.d2 (by simp), hg.cell h.d3 (by simp), hg.cell h.d4 (by simp), hg.cell h.d5 (by simp), (h.g.below hb).mono hb.size, (h.sk.below hb).mono hb.size, (h.p.below hb).mono hb.size, by omega⟩

set_option maxRecDepth 100000 in
set_option maxHeartbeats 8000000 in
theorem ris_walk {G : Gl} (hok : checkB G = true) (S : Int) (np : Nat) (len : Nat → Nat) (fp : Nat → Nat → Int) (v pv : Value) (w : World) (hG : GlAt w.heap.size w v G) (hp : LLc w.heap.size w pv np len fp) (hlen : ∀ k, k < np → len k < 4611686018427387904) (hnp : np < 4611686018427387904) :
    Calls Try.prog 52 #[.agg #[v], .agg #[.int .i64 S, pv]] w fun e w' => e = .returned (.bool (boolOf (IsP G S np len fp))) ∧ Below w.heap.size w w' := by
  have hn := ok_size hok
  have HOK := Lib.hid hok
  have HG := Lib.hid (And.intro hG (And.intro hp hlen))
  obtain ⟨ga, gc, rfl⟩ : ∃ a c, v = .slice a G.n c := by obtain ⟨a, _, _, cap, e, _⟩ := hG; exact ⟨a, cap, e⟩
  obtain ⟨pa, pc, rfl⟩ : ∃ a c, pv = .slice a np c := by obtain ⟨a, _, _, cap, e, _⟩ := hp; exact ⟨a, cap, e⟩
  clear hG hp hlen
  obtain ⟨N, hN⟩ : ∃ N, N = w.heap.size := ⟨_, rfl⟩
  have HN := Lib.hid hN
  go_enter Try.func52, Try.ntmps52
  go_wp2_with fail
  rw [← hN]
  refine wp_world_named fun W0 hW => ?_
  have h0 : Below N w W0 ∧ W0.cell? ⟨N, 0, none⟩ = some (.slice ga G.n gc) ∧ W0.cell? ⟨N + 1, 0, none⟩ = some (.int .i64 S) ∧ W0.cell? ⟨N + 1, 1, none⟩ = some (.slice pa np pc) ∧ W0.heap.size = N + 2 := by
    rw [hW, hN]; exact ⟨by (repeat' (first | assumption | exact Below.refl _ _ | refine below_then ?_ (by assumption) | refine below_al ?_ _ | refine below_dr ?_ | refine below_sc ?_ (by simp <;> omega) _)), by simp [go_sem], by simp [go_sem], by simp [go_sem], by simp⟩
  obtain ⟨hb, c0, c1, c2, hz⟩ := h0
  have hbw : Below w.heap.size w W0 := by rw [← hN]; exact hb
  refine (rskeleton_walk G (.slice ga G.n gc) W0 ((HG.out.1.below hbw).mono hbw.size) hok).mono ?_
  rintro e W1 ⟨sv, rfl, hsk, hb1⟩
  obtain ⟨va, vc, ea, ec, ta, b, tc, da, dn, dc, ra, rn, rc, la, ln, lc, rfl, hta, htri⟩ := hsk.skv
  have hsv : SKV W1.heap.size W1 (.agg #[.slice va G.n vc, .slice ea G.n ec, .slice ta G.n tc, .slice da dn dc, .slice ra rn rc, .slice la ln lc]) G := ⟨va, vc, ea, ec, ta, b, tc, da, dn, dc, ra, rn, rc, la, ln, lc, rfl, hta, htri⟩
  have hg1 := below_grown hb1 (Nat.le_refl _) none
  have k0 := hg1.cell c0 (by simp)
  have k1 := hg1.cell c1 (by simp)
  have k2 := hg1.cell c2 (by simp)
  have k0a := cell_al k0
  have k1a := cell_al k1
  have k2a := cell_al k2
  have hbw1 : Below N w W1 := hb.trans (hb1.mono (by omega))
  have hz1 : N + 2 ≤ W1.heap.size := by have := hb1.size; omega
  have H1 := Lib.hid (And.intro hbw1 (And.intro hsv (And.intro k0 (And.intro k1 k2))))
  clear hW hN hb hb1 c0 c1 c2 hz hbw hok hsk hta htri hsv hg1 k0 k1 k2 hbw1
  go_wp2_with fail
  obtain ⟨D, hD⟩ : ∃ D, D = W1.heap.size := ⟨_, rfl⟩
  rw [← hD]
  refine wp_world_named fun W2 hW => ?_
  have h2 : Below W1.heap.size W1 W2 ∧ W2.cell? ⟨D, 0, none⟩ = some (.slice va G.n vc) ∧ W2.cell? ⟨D, 1, none⟩ = some (.slice ea G.n ec) ∧ W2.cell? ⟨D, 2, none⟩ = some (.slice ta G.n tc) ∧ W2.cell? ⟨D, 3, none⟩ = some (.slice da dn dc) ∧ W2.cell? ⟨D, 4, none⟩ = some (.slice ra rn rc) ∧ W2.cell? ⟨D, 5, none⟩ = some (.slice la ln lc) := by
    rw [hW, hD]; exact ⟨(Below.refl _ _).alloc (Nat.le_refl _) _, by simp [go_sem], by simp [go_sem], by simp [go_sem], by simp [go_sem], by simp [go_sem], by simp [go_sem]⟩
  obtain ⟨hb2, d0, d1, d2, d3, d4, d5⟩ := h2
  have hbN2 : Below N w W2 := H1.out.1.trans (hb2.mono (by omega))
  have hbW2 : Below w.heap.size w W2 := by rw [← HN.out]; exact hbN2
  have hsk2 := (H1.out.2.1.below hb2).mono hb2.size
  have hg2 := (HG.out.1.below hbW2).mono hbW2.size
  have hp2 := (HG.out.2.1.below hbW2).mono hbW2.size
  have hgr := below_grown hb2 (Nat.le_refl _) none
  have x0 := hgr.cell H1.out.2.2.1 (by simp)
  have x1 := hgr.cell H1.out.2.2.2.1 (by simp)
  have x2 := hgr.cell H1.out.2.2.2.2 (by simp)
  have hz2 : N + 2 ≤ W2.heap.size := by have := hb2.size; omega
  refine (rshaped_walk HOK.out S np len fp (.slice ga G.n gc) _ (.slice pa np pc) W2 hg2 hsk2 hp2 HG.out.2.2 hnp).mono ?_
  rintro e W3 ⟨rfl, hb3⟩
  by_cases hsh : ShP G S np len fp
  · obtain ⟨s, rfl⟩ : ∃ s : Nat, S = s := ⟨S.toNat, by have := hsh.lo; omega⟩
    have hls : ∀ m, m < np → len m = s := fun m hm => by
      have := (permB_range (hsh.perms m hm)).1; omega
    have hnum := hsh.num
    subst hnum
    have hIS2 : ISB w W2 N D G ga gc s pa pc va vc ea ec ta tc da dn dc ra rn rc la ln lc fp := ⟨hbN2, x0, x1, x2, d0, d1, d2, d3, d4, d5, hg2, hsk2, hp2.LLs.lens hls, by omega⟩
    have hIS := hIS2.below hb3
    have hlo := hsh.lo
    have hhi := hsh.hi
    have hS : Sh G s fp (fun k => invP (fp k) s) := sh_of hsh.perms
    have HS := Lib.hid (And.intro hsh (And.intro hIS hS))
    rw [boolOf_true hsh]
    have y0 := hIS.c0
    clear hsh hIS hIS2 hS hls hW hD hb2 hb3 d0 d1 d2 d3 d4 d5 hbN2 hbW2 hsk2 hg2 hp2 hgr x0 x1 x2 hz2 k0a k1a k2a H1 hz1
    go_wp2
    go_loopw [30] (fun i wr => ∃ t : Nat, t ≤ G.n ∧ i = .int .i64 t ∧ (∀ q, q < 6 * t → ringOK G fp (fun k => invP (fp k) s) s (frS (q / 6) (q % 6))) ∧ Below W3.heap.size W3 wr) (fun i _ => G.n - (intOf i).toNat)
    case atStart => exact ⟨0, by omega, rfl, fun q hq => by omega, Below.refl _ _⟩
    case round =>
      obtain ⟨t, ht, rfl, hall, hbz⟩ := hrel
      have HA := Lib.hid (And.intro hall hbz)
      clear hall hbz
      rcases Nat.lt_or_ge t G.n with htn | htn
      · go_wp2
        go_loopw [7] (fun i wr => ∃ e : Nat, e ≤ 6 ∧ i = .int .i64 e ∧ (∀ q, q < 6 * t + e → ringOK G fp (fun k => invP (fp k) s) s (frS (q / 6) (q % 6))) ∧ Below W3.heap.size W3 wr) (fun i _ => 6 - (intOf i).toNat)
        case atStart => exact ⟨0, by omega, rfl, HA.out⟩
        case round =>
          clear HA
          obtain ⟨e, he, rfl, hall, hbz⟩ := hrel
          have HA := Lib.hid (And.intro hall hbz)
          have hI := HS.out.2.1.below hbz
          have HI := Lib.hid hI
          clear hall hbz hI
          rcases Nat.lt_or_ge e 6 with he6 | he6
          · obtain ⟨V, hV⟩ : ∃ V, V = wr := ⟨_, rfl⟩
            subst hV
            have HEN := Lib.hid (rends_walk e he6)
            go_wp2_with (go_at_call 90; (with_reducible refine (HEN.out _).mono ?_); rintro x w5 ⟨rfl, h5⟩; obtain rfl := h5.symm)
            refine wp_named fun W5 hW => ?_
            obtain ⟨M, hM⟩ : ∃ M, M = V.heap.size := ⟨_, rfl⟩
            rw [← hM]
            have hr : W5.rowIs M 85 4 (fun i => .int .i64 (frC e 0 i : Nat)) := by
              rw [hW, hM]
              refine World.rowIs_alloc V #[.int .i64 (pA e : Nat), .int .i64 (pB e : Nat), .int .i64 0, .int .i64 0] 85 _ (fun i hi => ?_)
              have : i = 0 ∨ i = 1 ∨ i = 2 ∨ i = 3 := by simp at hi; omega
              rcases this with rfl | rfl | rfl | rfl <;> simp [frC]
            have hg : V.grownBy W5 none := by rw [hW]; exact World.grownBy_alloc V _ none
            have H5 := Lib.hid (And.intro hr hg)
            have HM := Lib.hid hM
            clear hW hr hg hM
            have hfa : frAt e 0 = 2 := by simp [frAt]
            go_loopw [11, 12] (fun a i wz => ∃ k : Nat, k ≤ 4 ∧ i = .int .i64 k ∧ a = .int .i64 (frAt e k : Nat) ∧ wz.rowIs M 85 4 (fun i => .int .i64 (frC e k i : Nat)) ∧ V.grownBy wz (some M)) (fun _ i _ => 4 - (intOf i).toNat)
            case atStart => exact ⟨0, by omega, rfl, by simp [hfa], H5.out.1, grown_any H5.out.2 _⟩
            case round =>
              clear H5 hfa
              obtain ⟨k, hk, rfl, rfl, hr, hg⟩ := hrel
              rcases Nat.lt_or_ge k 4 with hk4 | hk4
              · have hlt := frAt_lt e he6 k hk4
                have hsu := frAt_succ e k
                have hcc : ∀ i, frC e (k + 1) i = if k ≠ pA e ∧ k ≠ pB e then (if i = frAt e k then k else frC e k i) else frC e k i := fun i => by
                  show (if k ≠ pA e ∧ k ≠ pB e then fun i => if i = frAt e k then k else frC e k i else frC e k) i = _
                  split <;> rfl
                obtain ⟨A, hA⟩ : ∃ A, A = frAt e k := ⟨_, rfl⟩
                rw [← hA] at hlt hsu hcc ⊢
                have HK := Lib.hid (And.intro hr (And.intro hg (And.intro hsu hcc)))
                obtain ⟨PA, hPA⟩ : ∃ PA, PA = pA e := ⟨_, rfl⟩
                obtain ⟨PB, hPB⟩ : ∃ PB, PB = pB e := ⟨_, rfl⟩
                rw [← hPA, ← hPB] at hlt HK ⊢
                have HPP := Lib.hid (And.intro hPA hPB)
                clear hg hsu hcc hPA hPB hA
                by_cases h1 : k = PA
                · have q1 : ((k : Int) != (PA : Int)) = false := by rw [← h1]; simp
                  have HH := Lib.hid h1
                  clear h1 hlt hr
                  go_wp2
                  obtain ⟨r1, r2, r3, r4⟩ := HK.out
                  rw [if_neg (fun h => h.1 HH.out)] at r3
                  exact ⟨⟨k + 1, by omega, by simp, by rw [r3], r1.congr (fun i _ => by rw [r4, if_neg (fun h => h.1 HH.out)]), r2⟩, by simp [intOf]; omega⟩
                · by_cases h2 : k = PB
                  · have q1 : ((k : Int) != (PA : Int)) = true := by simp; omega
                    have q2 : ((k : Int) != (PB : Int)) = false := by rw [← h2]; simp
                    have HH := Lib.hid h2
                    clear h1 h2 hlt hr
                    go_wp2
                    obtain ⟨r1, r2, r3, r4⟩ := HK.out
                    rw [if_neg (fun h => h.2 HH.out)] at r3
                    exact ⟨⟨k + 1, by omega, by simp, by rw [r3], r1.congr (fun i _ => by rw [r4, if_neg (fun h => h.2 HH.out)]), r2⟩, by simp [intOf]; omega⟩
                  · have q1 : ((k : Int) != (PA : Int)) = true := by simp; omega
                    have q2 : ((k : Int) != (PB : Int)) = true := by simp; omega
                    have hA4 := hlt h1 h2
                    have HH := Lib.hid (And.intro h1 h2)
                    have hc := hr.cell hA4
                    have hf := hr.frozen A
                    have A0 : 0 ≤ (A : Int) := by omega
                    have A4 : (A : Int) < 4 := by omega
                    clear h1 h2 hlt hr
                    go_wp2
                    obtain ⟨r1, r2, r3, r4⟩ := HK.out
                    rw [if_pos HH.out] at r3
                    refine ⟨⟨k + 1, by omega, by simp, by rw [r3]; simp, (r1.set A _).congr (fun i _ => ?_), grownBy_trans r2 (grownBy_setCell _ _ _ _)⟩, by simp [intOf]; omega⟩
                    rw [r4, if_pos HH.out]
                    by_cases q : i = A <;> simp [q]
              · obtain rfl : k = 4 := by omega
                have e0 := hr.cell (i := 0) (by omega)
                have e1 := hr.cell (i := 1) (by omega)
                have e2 := hr.cell (i := 2) (by omega)
                have e3 := hr.cell (i := 3) (by omega)
                have hVM : Below V.heap.size V wr := (Below.refl _ V).grown hg (Nat.le_refl _) (fun k q => by cases q; have := HM.out; omega)
                have hI6 := HI.out.below hVM
                have y0 := hI6.c0
                have h3w : Below W3.heap.size W3 wr := HA.out.2.trans (hVM.mono HA.out.2.size)
                have H6 := Lib.hid (And.intro hI6 h3w)
                have hR := rring_walk HOK.out (frS_ok (n := G.n) htn he6) (.slice ga G.n gc) wr hI6.g
                have HRR := Lib.hid hR
                obtain ⟨z0, hz0⟩ : ∃ z, z = frC e 4 0 := ⟨_, rfl⟩
                obtain ⟨z1, hz1⟩ : ∃ z, z = frC e 4 1 := ⟨_, rfl⟩
                obtain ⟨z2, hz2⟩ : ∃ z, z = frC e 4 2 := ⟨_, rfl⟩
                obtain ⟨z3, hz3⟩ : ∃ z, z = frC e 4 3 := ⟨_, rfl⟩
                have hR2 : Calls Try.prog 93 #[.agg #[.slice ga G.n gc], .int .i64 (t : Int), .agg #[.int .i64 (z0 : Int), .int .i64 (z1 : Int), .int .i64 (z2 : Int), .int .i64 (z3 : Int)]] wr (RingAns G (frS t e) wr) := by
                  rw [hz0, hz1, hz2, hz3]; exact hR
                rw [← hz0] at e0
                rw [← hz1] at e1
                rw [← hz2] at e2
                rw [← hz3] at e3
                have HR2 := Lib.hid hR2
                clear hR hR2 hz0 hz1 hz2 hz3 hr hg hVM hI6 HRR h3w
                go_wp2_with fail
                refine HR2.out.mono ?_
                rintro x W7 ⟨hb7, rv, cl, rfl, hcl, hop⟩
                have hI7 := H6.out.1.below hb7
                have h3w7 : Below W3.heap.size W3 W7 := H6.out.2.trans (hb7.mono H6.out.2.size)
                cases cl with
                | false =>
                  obtain ⟨m0, hm0⟩ := hop rfl
                  have HRK := Lib.hid (ring_open (f := fp) (g := fun k => invP (fp k) s) (sh := s) hm0)
                  have H7 := Lib.hid h3w7
                  have c1 := hI7.c1
                  clear hcl hop hm0 hI7 h3w7 hb7
                  go_wp2
                  go_loopw [16] (fun a wz => a = .int .i64 0 ∧ wz = W7) (fun _ _ => 0)
                  case atStart => exact ⟨rfl, rfl⟩
                  case round =>
                    obtain ⟨rfl, rfl⟩ := hrel
                    go_wp2
                    exact ⟨⟨e + 1, by omega, by simp, fun q hq => by
                      rcases Nat.lt_or_ge q (6 * t + e) with h | h
                      · exact HA.out.1 q h
                      · rw [show q / 6 = t by omega, show q % 6 = e by omega]; exact HRK.out, H7.out⟩, by simp [intOf]; omega⟩
                | true =>
                  obtain ⟨m, hm0, hm1, hm2, hown⟩ := hcl rfl
                  obtain ⟨g, gcp, rfl, -⟩ := hown.form (by omega)
                  have hml := ring_len HOK.out (frS_ok (n := G.n) htn he6) hm1 hm2
                  have H7 := Lib.hid (And.intro h3w7 (And.intro hI7 (And.intro hm0 (And.intro hm1 (And.intro hm2 hown)))))
                  have c1 := hI7.c1
                  clear hcl hop hm0 hm1 hm2 hown hI7 h3w7 hb7
                  go_wp2
                  go_loopw [16] (fun a wz => ∃ i : Nat, i ≤ s ∧ a = .int .i64 i ∧ (∀ x, x < i → shA G fp (fun k => invP (fp k) s) (pth G 2 (frS t e) m) x m = x) ∧ Below W7.heap.size W7 wz) (fun a _ => s - (intOf a).toNat)
                  case atStart => exact ⟨0, by omega, rfl, fun x hx => by omega, Below.refl _ _⟩
                  case round =>
                    obtain ⟨i, hi, rfl, hgd, hbz⟩ := hrel
                    have HGD := Lib.hid (And.intro hgd hbz)
                    have hI8 := H7.out.2.1.below hbz
                    have HI8 := Lib.hid hI8
                    have c1 := hI8.c1
                    clear hgd hbz hI8
                    rcases Nat.lt_or_ge i s with his | his
                    · obtain ⟨V8, hV8⟩ : ∃ V8, V8 = wr := ⟨_, rfl⟩
                      subst hV8
                      go_wp2
                      go_loopw [17, 82] (fun a j wz => ∃ k : Nat, k ≤ m ∧ j = .int .i64 k ∧ a = .int .i64 (shA G fp (fun k => invP (fp k) s) (pth G 2 (frS t e) m) i k : Nat) ∧ Below V8.heap.size V8 wz) (fun _ j _ => m - (intOf j).toNat)
                      case atStart => exact ⟨0, by omega, rfl, rfl, Below.refl _ _⟩
                      case round =>
                        obtain ⟨k, hk, rfl, rfl, hbz⟩ := hrel
                        have hI9 := HI8.out.below hbz
                        have HI9 := Lib.hid (And.intro hI9 hbz)
                        rcases Nat.lt_or_ge k m with hkm | hkm
                        · obtain ⟨u, hu⟩ := Option.ne_none_iff_exists'.1 (ring_all H7.out.2.2.2.1 k hkm)
                          have hpg := (pth_get (ring_all H7.out.2.2.2.1) k hkm).trans hu
                          have hb79 : Below W7.heap.size W7 wr := HGD.out.2.trans (hbz.mono HGD.out.2.size)
                          have hown := H7.out.2.2.2.2.2.kept (below_grown hb79 (Nat.le_refl _) none) (Or.inr (by simp [Value.ownBlock]))
                          obtain ⟨b0, b1, b2, b3, b4⟩ := own_ring hown hpg
                          have hul := itr_ok HOK.out (frS_ok (n := G.n) htn he6) hu
                          have hif : InSh (nF G) s fp := fun k hk i hi => by obtain ⟨j, h1, h2⟩ := HS.out.2.2.fr k i hk hi; omega
                          have hig : InSh (nF G) s (fun k => invP (fp k) s) := fun k hk i hi => by
                            obtain ⟨j, h1, h2⟩ := HS.out.2.2.gr k i hk hi
                            have h3 : invP (fp k) s i = j := h1
                            show 0 ≤ invP (fp k) s i ∧ invP (fp k) s i < s
                            omega
                          have hxs := shA_lt HOK.out hif hig (xs := pth G 2 (frS t e) m) (fun x hx => by
                            obtain ⟨j, _, hj⟩ := List.mem_filterMap.1 hx
                            exact itr_ok HOK.out (frS_ok (n := G.n) htn he6) hj) his k
                          obtain ⟨hc1, hc2⟩ := crF_lt HOK.out hif hig hul.t (rp_lt hul 2) hxs
                          have hst := shA_step (f := fp) (g := fun k => invP (fp k) s) (i := i) H7.out.2.2.2.1 hkm hu
                          obtain ⟨x, hx⟩ : ∃ x, x = shA G fp (fun k => invP (fp k) s) (pth G 2 (frS t e) m) i k := ⟨_, rfl⟩
                          rw [← hx] at hxs hc1 hst ⊢
                          obtain ⟨y, hy⟩ : ∃ y, y = (crF G fp (fun k => invP (fp k) s) u.1 (rp u 2) x).toNat := ⟨_, rfl⟩
                          rw [← hy] at hc1 hst
                          have call : ∀ W, Below wr.heap.size wr W → Calls Try.prog 55 #[.agg #[.slice ga G.n gc], .agg #[.slice va G.n vc, .slice ea G.n ec, .slice ta G.n tc, .slice da dn dc, .slice ra rn rc, .slice la ln lc], .agg #[.int .i64 (s : Int), .slice pa (nF G) pc], .int .i64 (u.1 : Int), .int .i64 (u.2.2.2.1 : Int), .int .i64 (x : Int)] W fun e w' => e = .returned (.int .i64 (y : Int)) ∧ Below W.heap.size W w' := fun W h => by
                            have h9 := HI9.out.1.below h
                            have := rcross_walk HOK.out HS.out.2.2 (by omega) u.1 (rp u 2) x hul.t (rp_lt hul 2) hxs _ _ _ W h9.g h9.sk h9.p s
                            rw [hc1] at this
                            exact this
                          have HC := Lib.hid call
                          have HST := Lib.hid (And.intro hst hx)
                          have k0 : 0 ≤ (k : Int) := by omega
                          have km : (k : Int) < (m : Int) := by omega
                          have c0 := cell_al hI9.c0
                          have c1' := cell_al hI9.c1
                          have c2 := cell_al hI9.c2
                          have d0 := cell_al hI9.d0
                          have d1 := cell_al hI9.d1
                          have d2 := cell_al hI9.d2
                          have d3 := cell_al hI9.d3
                          have d4 := cell_al hI9.d4
                          have d5 := cell_al hI9.d5
                          obtain ⟨nf, hnf⟩ : ∃ nf, nf = nF G := ⟨_, rfl⟩
                          clear call hst hx hc1 hc2 hif hig hpg hb79 hown hul hy hI9 hbz hu hnf
                          go_wp2_with fail
                          refine (HC.out _ (by (repeat' (first | assumption | exact Below.refl _ _ | refine below_then ?_ (by assumption) | refine below_al ?_ _ | refine below_dr ?_ | refine below_sc ?_ (by simp <;> omega) _)))).mono ?_
                          rintro z W9 ⟨rfl, hb9⟩
                          have HB9 := Lib.hid (show Below V8.heap.size V8 W9 from (HI9.out.2.alloc HI9.out.2.size _).trans (hb9.mono (by have := HI9.out.2.size; simp; omega)))
                          clear hb9 c0 c1' c2 d0 d1 d2 d3 d4 d5 b0 b1 b2 b3 b4
                          go_wp2
                          exact ⟨⟨k + 1, by omega, by simp, by rw [HST.out.1], HB9.out⟩, by simp [intOf]; omega⟩
                        · obtain rfl : k = m := by omega
                          obtain ⟨x, hx⟩ : ∃ x, x = shA G fp (fun k => invP (fp k) s) (pth G 2 (frS t e) k) i k := ⟨_, rfl⟩
                          rw [← hx]
                          have HX := Lib.hid hx
                          have c1' := hI9.c1
                          clear hx hI9 hbz
                          by_cases hxi : x = i
                          · have q1 : ((x : Int) != (i : Int)) = false := by simp [hxi]
                            have HXI := Lib.hid hxi
                            clear hxi
                            go_wp2
                            exact ⟨⟨i + 1, by omega, by simp, fun z hz => by
                              rcases Nat.lt_or_ge z i with h | h
                              · exact HGD.out.1 z h
                              · rw [show z = i by omega, ← HX.out, HXI.out], HGD.out.2.trans (HI9.out.2.mono HGD.out.2.size)⟩, by simp [intOf]; omega⟩
                          · have q1 : ((x : Int) != (i : Int)) = true := by simp; omega
                            have HF := Lib.hid (boolOf_false (P := IsP G s (nF G) len fp) (fun h => hxi (by
                              have := h.2 (6 * t + e) (by omega)
                              rw [show (6 * t + e) / 6 = t by omega, show (6 * t + e) % 6 = e by omega] at this
                              have h2 := this k H7.out.2.2.1 H7.out.2.2.2.1 H7.out.2.2.2.2.1 i (by simpa using his)
                              rw [HX.out]; exact h2)))
                            clear hxi
                            go_wp2
                            go_ret
                            exact ⟨by rw [HF.out]; rfl, by rw [← HN.out]; exact HI9.out.1.bel⟩
                    · obtain rfl : i = s := by omega
                      have HRK := Lib.hid (show ringOK G fp (fun k => invP (fp k) i) i (frS t e) from fun m' h0 h1 h2 => by
                        obtain rfl := ring_uniq H7.out.2.2.1 h0 H7.out.2.2.2.1 H7.out.2.2.2.2.1 h1 h2
                        exact HGD.out.1)
                      have HBB := Lib.hid (H7.out.1.trans (HGD.out.2.mono H7.out.1.size))
                      go_wp2
                      exact ⟨⟨e + 1, by omega, by simp, fun q hq => by
                        rcases Nat.lt_or_ge q (6 * t + e) with h | h
                        · exact HA.out.1 q h
                        · rw [show q / 6 = t by omega, show q % 6 = e by omega]; exact HRK.out, HBB.out⟩, by simp [intOf]; omega⟩
          · obtain rfl : e = 6 := by omega
            go_wp2
            exact ⟨⟨t + 1, by omega, by simp, fun q hq => HA.out.1 q (by omega), HA.out.2⟩, by simp [intOf]; omega⟩
      · obtain rfl : t = G.n := by omega
        have HT3 := Lib.hid (boolOf_true (P := IsP G s (nF G) len fp) ⟨HS.out.1, HA.out.1⟩)
        have HB4 := Lib.hid (HS.out.2.1.below HA.out.2).bel
        go_wp2
        go_ret
        exact ⟨by rw [HT3.out]; rfl, by rw [← HN.out]; exact HB4.out⟩
  · have HF := Lib.hid (boolOf_false (P := IsP G S np len fp) (fun h => hsh h.1))
    rw [boolOf_false hsh]
    have HB := Lib.hid (hbN2.trans (hb3.mono (by omega)))
    clear hsh hW hD hb2 hb3 d0 d1 d2 d3 d4 d5 hbN2 hbW2 hsk2 hg2 hp2 hgr x0 x1 x2
    go_wp2
    go_ret
    exact ⟨by rw [HF.out]; rfl, by rw [← HN.out]; exact HB.out⟩
end Go.Proofs.Ytlckpgahijlmoaa
/- The program's covering and the reference's are the same: plain laws. -/
namespace Go.Proofs.Ytlckpgahijlmoaa

theorem join_closed {p : Nat → Prop} {r : Nat → Nat} {M i j : Nat} (hr : ∀ x, x < M → (p x ↔ p (r x))) (hi : i < M) (hj : j < M) (hp : p i ↔ p j) : ∀ x, x < M → (p x ↔ p (joinR r i j x)) := fun x hx => by
  have h2 := hr i hi
  have h3 := hr j hj
  have h4 := hr x hx
  unfold joinR
  split
  · rename_i e
    rw [h4, e]
    rcases Nat.le_total (r i) (r j) with q | q
    · rw [Nat.max_eq_right q, Nat.min_eq_left q, ← h2, ← h3, hp]
    · rw [Nat.max_eq_left q, Nat.min_eq_right q, ← h2, ← h3, hp]
  · exact h4
theorem er_closed {G : Gl} (hok : checkB G = true) {p : Nat → Prop} (hp : ∀ k e, k < 4 * G.n → ¬ G.tet k < 0 → e < 6 → pA e ≠ k % 4 → pB e ≠ k % 4 → (p (6 * (k / 4) + e) ↔ p (6 * G.T k + edN (G.P k (pA e)) (G.P k (pB e))))) :
    ∀ m, m ≤ 4 * G.n → ∀ x, x < 6 * G.n → (p x ↔ p (lp (erF G) id m x))
  | 0, _, _, _ => Iff.rfl
  | m + 1, hm, x, hx => by
    have ih := er_closed hok hp m (by omega)
    rw [lp_succ]
    by_cases ht : G.tet m < 0
    · rw [erF_lt ht]; exact ih x hx
    · rw [erF_ge ht]
      obtain ⟨-, t2, t3⟩ := ok_face hok (show m < 4 * G.n by omega) ht
      have inner : ∀ e, e ≤ 6 → ∀ x, x < 6 * G.n → (p x ↔ p (lp (erE G m) (lp (erF G) id m) e x)) := fun e => by
        induction e with
        | zero => intro _ x hx; exact ih x hx
        | succ e ihe =>
          intro he x hx
          rw [lp_succ]
          by_cases q : pA e = m % 4 ∨ pB e = m % 4
          · rw [erE_eq q]; exact ihe (by omega) x hx
          · have hAB : pA e < 4 ∧ pB e < 4 ∧ pA e ≠ pB e := by
              rcases (show e = 0 ∨ e = 1 ∨ e = 2 ∨ e = 3 ∨ e = 4 ∨ e = 5 by omega) with rfl | rfl | rfl | rfl | rfl | rfl <;> decide
            have h1 := (t3 _ hAB.1).2
            have h2 := (t3 _ hAB.2.1).2
            have h3 := ok_inj hok (show m < 4 * G.n by omega) ht _ _ hAB.1 hAB.2.1 hAB.2.2
            have h4 := (edN_eq _ _ h1 h2 h3).2
            rw [erE_ne (fun z => q (.inl z)) (fun z => q (.inr z))]
            exact join_closed (ihe (by omega)) (by omega) (by omega) (hp m e (by omega) ht (by omega) (fun z => q (.inl z)) (fun z => q (.inr z))) x hx
      exact inner 6 (Nat.le_refl _) x hx
theorem frC_ends : ∀ e, e < 6 → frC e 4 0 = pA e ∧ frC e 4 1 = pB e := by decide
theorem frC_face : ∀ e, e < 6 → ∀ f, f < 4 → pA e ≠ f → pB e ≠ f → f = frC e 4 2 ∨ f = frC e 4 3 := by decide
section
variable {G : Gl} {f g : Nat → Nat → Int} {sh : Nat} (hok : checkB G = true) (hS : Sh G sh f g)
include hok hS
theorem RG_face {k e : Nat} (hk : k < 4 * G.n) (ht : ¬ G.tet k < 0) (he : e < 6) (h1 : pA e ≠ k % 4) (h2 : pB e ≠ k % 4) :
    ringOK G f g sh (frS (k / 4) e) ↔ ringOK G f g sh (frS (G.T k) (edN (G.P k (pA e)) (G.P k (pB e)))) := by
  have hs := frS_ok (n := G.n) (t := k / 4) (e := e) (by omega) he
  obtain ⟨c0, c1⟩ := frC_ends e he
  have hkk : 4 * (k / 4) + k % 4 = k := by omega
  rcases frC_face e he (k % 4) (by omega) h1 h2 with hf | hf
  · have hst : stp G 2 (frS (k / 4) e) = some (G.T k, G.P k (pA e), G.P k (pB e), G.P k (frC e 4 3), G.P k (frC e 4 2)) := by
      unfold stp
      show (if G.tet (4 * (k / 4) + frC e 4 2) < 0 then none else some (G.T (4 * (k / 4) + frC e 4 2), G.P (4 * (k / 4) + frC e 4 2) (frC e 4 0), G.P (4 * (k / 4) + frC e 4 2) (frC e 4 1), G.P (4 * (k / 4) + frC e 4 2) (frC e 4 3), G.P (4 * (k / 4) + frC e 4 2) (frC e 4 2))) = _
      rw [← hf, hkk, if_neg ht, c0, c1]
    rw [RG_stp_iff hok hS hs hst, RG_frame hok hS (stp_ok hok hs hst)]
  · have hs2 := sw23_ok hs
    have hst : stp G 2 (sw23 (frS (k / 4) e)) = some (G.T k, G.P k (pA e), G.P k (pB e), G.P k (frC e 4 2), G.P k (frC e 4 3)) := by
      unfold stp
      show (if G.tet (4 * (k / 4) + frC e 4 3) < 0 then none else some (G.T (4 * (k / 4) + frC e 4 3), G.P (4 * (k / 4) + frC e 4 3) (frC e 4 0), G.P (4 * (k / 4) + frC e 4 3) (frC e 4 1), G.P (4 * (k / 4) + frC e 4 3) (frC e 4 2), G.P (4 * (k / 4) + frC e 4 3) (frC e 4 3))) = _
      rw [← hf, hkk, if_neg ht, c0, c1]
    rw [← RG_sw23_iff hok hS hs, RG_stp_iff hok hS hs2 hst, RG_frame hok hS (stp_ok hok hs2 hst)]
theorem rings_all (h : ringsTo G f g sh (6 * G.n)) : ∀ q, q < 6 * G.n → ringOK G f g sh (frS (q / 6) (q % 6)) := fun q hq => by
  have hcl := er_closed hok (p := fun q => ringOK G f g sh (frS (q / 6) (q % 6))) (fun k e hk ht he h1 h2 => by
    obtain ⟨-, t2, t3⟩ := ok_face hok hk ht
    have hAB : pA e < 4 ∧ pB e < 4 ∧ pA e ≠ pB e := by
      rcases (show e = 0 ∨ e = 1 ∨ e = 2 ∨ e = 3 ∨ e = 4 ∨ e = 5 by omega) with rfl | rfl | rfl | rfl | rfl | rfl <;> decide
    have h4 := (edN_eq _ _ (t3 _ hAB.1).2 (t3 _ hAB.2.1).2 (ok_inj hok hk ht _ _ hAB.1 hAB.2.1 hAB.2.2)).2
    show ringOK G f g sh (frS ((6 * (k / 4) + e) / 6) ((6 * (k / 4) + e) % 6)) ↔ ringOK G f g sh (frS ((6 * G.T k + edN (G.P k (pA e)) (G.P k (pB e))) / 6) ((6 * G.T k + edN (G.P k (pA e)) (G.P k (pB e))) % 6))
    rw [show (6 * (k / 4) + e) / 6 = k / 4 by omega, show (6 * (k / 4) + e) % 6 = e by omega, show (6 * G.T k + edN (G.P k (pA e)) (G.P k (pB e))) / 6 = G.T k by omega, show (6 * G.T k + edN (G.P k (pA e)) (G.P k (pB e))) % 6 = edN (G.P k (pA e)) (G.P k (pB e)) by omega]
    exact RG_face hok hS hk ht he h1 h2) (4 * G.n) (Nat.le_refl _) q hq
  rw [← cls_r3] at hcl
  obtain ⟨u, hu⟩ := (cls_inv hok).2.2.1
  have hle := hu.rle q hq
  have hid := hu.idem q hq
  refine hcl.2 (h ((clsAll G).r3 q) (by omega) (fun q' hq' e => ?_))
  have h1 := cnt_inj (hu.idem q' (by omega)) (hu.idem ((clsAll G).r3 q) (by omega)) (show cnt (clsAll G).r3 ((clsAll G).r3 q') = cnt (clsAll G).r3 ((clsAll G).r3 ((clsAll G).r3 q)) from e)
  rw [hid] at h1
  have := hu.rle q' (by omega)
  omega
end
/-- the program's condition and the reference's -/
theorem cov_iff {G : Gl} (hok : checkB G = true) (S : Int) (np : Nat) (len : Nat → Nat) (fp : Nat → Nat → Int) : CovOK G S np len fp ↔ IsP G S np len fp := by
  constructor
  · intro h
    refine ⟨⟨h.lo, h.hi, h.tets, h.num, h.perms, fun j hj hn i hi => ?_⟩, rings_all hok h.sh h.rings⟩
    have e : 4 * (j / 4) + j % 4 = j := by omega
    have := h.free (j / 4) (j % 4) ((fD_first hok (by omega) (by omega)).2 (by rw [e]; exact .inl hn)) (by rw [e]; exact hn) i hi
    rwa [e] at this
  · rintro ⟨h1, h2⟩
    refine ⟨h1.lo, h1.hi, h1.tets, h1.num, h1.perms, fun t f hs hn i hi => ?_, fun q hq _ => h2 q hq⟩
    cases hD : fD G (4 * G.n) (t, f) with
    | none => rw [hD] at hs; cases hs
    | some c =>
      obtain ⟨j, hj, he, -⟩ := fD_some hD
      obtain ⟨rfl, rfl⟩ : t = j / 4 ∧ f = j % 4 := by simpa using he
      rw [show 4 * (j / 4) + j % 4 = j by omega] at hn ⊢
      exact h1.free j hj hn i hi
end Go.Proofs.Ytlckpgahijlmoaa
/- R11.Check: the error of a covering. -/
namespace Go.Proofs.Ytlckpgahijlmoaa
open Go.RowKit Go.Shelf

/-- the error of a covering -/
noncomputable def rerI (G : Gl) (S : Int) (np : Nat) (len : Nat → Nat) (fp : Nat → Nat → Int) : Int := if askI G = 0 then (if boolOf (IsP G S np len fp) then 0 else 110) else askI G
theorem askI_zero {G : Gl} : askI G = 0 ↔ checkB G = true ∧ ∀ i, i < nE G → revK G (6 * G.n) i = false := by
  unfold askI
  constructor
  · intro h
    cases hok : checkB G with
    | false => rw [hok] at h; cases h
    | true =>
      rw [hok] at h
      refine ⟨rfl, fun i hi => ?_⟩
      cases hr : revK G (6 * G.n) i with
      | false => rfl
      | true => rw [revB_true hi hr] at h; cases h
  · rintro ⟨h1, h2⟩
    rw [h1, revB_false h2]; rfl
/-- it is the program's error -/
theorem asked_rerI {G : Gl} {S : Int} {np : Nat} {len : Nat → Nat} {fp : Nat → Nat → Int} {c : Int} (h : AskedErr G S np len fp c) : c = rerI G S np len fp := by
  unfold rerI
  rcases h with ⟨h1, rfl⟩ | ⟨h1, ⟨i, hi, hr⟩, rfl⟩ | ⟨h1, h2, h3, rfl⟩ | ⟨h1, h2, h3, rfl⟩
  · have : askI G = 7 := by unfold askI; rw [h1]; rfl
    rw [this]; rfl
  · have : askI G = 8 := by unfold askI; rw [h1, revB_true hi hr]; rfl
    rw [this]; rfl
  · rw [if_pos (askI_zero.2 ⟨h1, h2⟩), boolOf_false (fun q => h3 ((cov_iff h1 S np len fp).2 q))]; rfl
  · rw [if_pos (askI_zero.2 ⟨h1, h2⟩), boolOf_true ((cov_iff h1 S np len fp).1 h3)]; rfl
theorem rerI_zero {G : Gl} {S : Int} {np : Nat} {len : Nat → Nat} {fp : Nat → Nat → Int} (h : rerI G S np len fp = 0) : checkB G = true ∧ CovOK G S np len fp := by
  unfold rerI at h
  by_cases h0 : askI G = 0
  · rw [if_pos h0] at h
    have h1 := askI_zero.1 h0
    refine ⟨h1.1, (cov_iff h1.1 S np len fp).2 ?_⟩
    by_cases q : IsP G S np len fp
    · exact q
    · rw [boolOf_false q] at h; cases h
  · rw [if_neg h0] at h; exact absurd h h0
section
variable (G : Gl) (v : Value) (S : Int) (pv : Value) (np : Nat) (len : Nat → Nat) (fp : Nat → Nat → Int) (w : World) (hG : GlAt w.heap.size w v G) (hm : G.n ≤ 9223372036854775807) (hpv : LLc w.heap.size w pv np len fp) (hlen : ∀ k, k < np → len k < 4611686018427387904) (hnp : np < 4611686018427387904)
include hG hm hpv hlen hnp
set_option maxRecDepth 100000 in
set_option maxHeartbeats 1000000 in
theorem rcheck_walk : Calls Try.prog 30 #[.agg #[v], .agg #[.int .i64 S, pv]] w fun e w' => e = .returned (.int .i64 (rerI G S np len fp)) ∧ Below w.heap.size w w' := by
  have HG := Lib.hid (And.intro hG (And.intro hpv hlen))
  obtain ⟨ga, gc, rfl⟩ : ∃ a c, v = .slice a G.n c := by obtain ⟨a, _, _, cap, e, _⟩ := hG; exact ⟨a, cap, e⟩
  obtain ⟨pa, pc, rfl⟩ : ∃ a c, pv = .slice a np c := by obtain ⟨a, _, _, cap, e, _⟩ := hpv; exact ⟨a, cap, e⟩
  clear hG hpv hlen
  obtain ⟨N, hN⟩ : ∃ N, N = w.heap.size := ⟨_, rfl⟩
  have HN := Lib.hid hN
  go_enter Try.func30, Try.ntmps30
  go_wp2_with fail
  rw [← hN]
  refine wp_world_named fun W0 hW => ?_
  have h0 : Below N w W0 ∧ W0.cell? ⟨N, 0, none⟩ = some (.slice ga G.n gc) ∧ W0.cell? ⟨N + 1, 0, none⟩ = some (.int .i64 S) ∧ W0.cell? ⟨N + 1, 1, none⟩ = some (.slice pa np pc) ∧ W0.heap.size = N + 2 := by
    rw [hW, hN]; exact ⟨by (repeat' (first | assumption | exact Below.refl _ _ | refine below_then ?_ (by assumption) | refine below_al ?_ _ | refine below_dr ?_ | refine below_sc ?_ (by simp <;> omega) _)), by simp [go_sem], by simp [go_sem], by simp [go_sem], by simp⟩
  obtain ⟨hb, c0, c1, c2, hz⟩ := h0
  have hbw : Below w.heap.size w W0 := by rw [← hN]; exact hb
  refine (rasked_walk G W0 (.slice ga G.n gc) ((HG.out.1.below hbw).mono hbw.size) hm).mono ?_
  rintro e W1 ⟨rfl, hb1⟩
  have hg1 := below_grown hb1 (Nat.le_refl _) none
  have k0 := hg1.cell c0 (by simp)
  have k1 := hg1.cell c1 (by simp)
  have k2 := hg1.cell c2 (by simp)
  have hbw1 : Below N w W1 := hb.trans (hb1.mono (by omega))
  have H1 := Lib.hid hbw1
  clear hW hN hb hb1 c0 c1 c2 hz hbw hg1 hbw1
  by_cases hz : askI G = 0
  · have hok := (askI_zero.1 hz).1
    have HR := Lib.hid (show rerI G S np len fp = if boolOf (IsP G S np len fp) then 0 else 110 from if_pos hz)
    rw [hz]
    have hbw2 : Below w.heap.size w W1 := by rw [← HN.out]; exact H1.out
    have h52 := ris_walk hok S np len fp (.slice ga G.n gc) (.slice pa np pc) W1 ((HG.out.1.below hbw2).mono hbw2.size) ((HG.out.2.1.below hbw2).mono hbw2.size) HG.out.2.2 hnp
    have H52 := Lib.hid h52
    have hsz : N ≤ W1.heap.size := by rw [HN.out]; exact hbw2.size
    clear hz hok h52 hbw2
    go_wp2_with fail
    refine H52.out.mono ?_
    rintro e W2 ⟨rfl, hb2⟩
    have H2 := Lib.hid (H1.out.trans (hb2.mono hsz))
    obtain ⟨b, hbb⟩ : ∃ b, b = boolOf (IsP G S np len fp) := ⟨_, rfl⟩
    rw [← hbb] at HR ⊢
    clear hb2 hbb
    cases b with
    | true =>
      go_wp2
      go_ret
      exact ⟨by rw [HR.out]; rfl, by rw [← HN.out]; exact H2.out⟩
    | false =>
      go_wp2
      go_ret
      exact ⟨by rw [HR.out]; rfl, by rw [← HN.out]; exact H2.out⟩
  · have HR := Lib.hid (show rerI G S np len fp = askI G from if_neg hz)
    obtain ⟨c, hc⟩ : ∃ c, c = askI G := ⟨_, rfl⟩
    rw [← hc] at hz HR ⊢
    have q1 : (c != 0) = true := by simpa using hz
    clear hz hc k1 k2
    go_wp2
    go_ret
    exact ⟨by rw [HR.out]; rfl, by rw [← HN.out]; exact H1.out⟩
end
end Go.Proofs.Ytlckpgahijlmoaa
namespace Go.Proofs.Ytlckpgahijlmoaa
open Go.RowKit Go.Shelf

/-- a row under way: its faces below f are there, the others are blank -/
def zG (H : Gl) (K f : Nat) : Gl where
  n := 1
  tet := fun j => if j < f then H.tet (4 * K + j) else 0
  pm := fun j => if j < f then H.pm (4 * K + j) else fun _ => 0
theorem zG_all (H : Gl) (K : Nat) : rowA (zG H K 4) 0 = rowA H K := by simp [rowA, zG]
theorem zG_cell (H : Gl) (K f : Nat) (hf : f < 4) (j : Nat) (hj : j < 20) : (rowA (zG H K (f + 1)) 0)[j]? = if j = f * 5 then some (.int .i64 (H.tet (4 * K + f))) else if j = f * 5 + 1 then some (.int .i64 (H.pm (4 * K + f) 0)) else if j = f * 5 + 2 then some (.int .i64 (H.pm (4 * K + f) 1)) else if j = f * 5 + 3 then some (.int .i64 (H.pm (4 * K + f) 2)) else if j = f * 5 + 4 then some (.int .i64 (H.pm (4 * K + f) 3)) else (rowA (zG H K f) 0)[j]? := by
  have hm' : f = 0 ∨ f = 1 ∨ f = 2 ∨ f = 3 := by omega
  have hj' : j = 0 ∨ j = 1 ∨ j = 2 ∨ j = 3 ∨ j = 4 ∨ j = 5 ∨ j = 6 ∨ j = 7 ∨ j = 8 ∨ j = 9 ∨ j = 10 ∨ j = 11 ∨ j = 12 ∨ j = 13 ∨ j = 14 ∨ j = 15 ∨ j = 16 ∨ j = 17 ∨ j = 18 ∨ j = 19 := by omega
  rcases hm' with rfl | rfl | rfl | rfl <;> rcases hj' with rfl | rfl | rfl | rfl | rfl | rfl | rfl | rfl | rfl | rfl | rfl | rfl | rfl | rfl | rfl | rfl | rfl | rfl | rfl | rfl <;> simp [rowA, zG]
theorem zG_blank (H : Gl) (K f : Nat) (hf : f < 4) (i : Nat) (hi : i < 5) : (rowA (zG H K f) 0)[f * 5 + i]? = some (.int .i64 0) := by
  have hm' : f = 0 ∨ f = 1 ∨ f = 2 ∨ f = 3 := by omega
  have hi' : i = 0 ∨ i = 1 ∨ i = 2 ∨ i = 3 ∨ i = 4 := by omega
  rcases hm' with rfl | rfl | rfl | rfl <;> rcases hi' with rfl | rfl | rfl | rfl | rfl <;> simp [rowA, zG]
/-- the gluing under way, in the box O -/
structure MO (WB W : World) (O : Nat) (H : Gl) (k : Nat) (uv : Value) : Prop where
  bel : Below O WB W
  o : W.cell? ⟨O, 0, none⟩ = some uv
  fo : W.frozen? ⟨O, 0, none⟩ = false
  own : W.ownsRow (O + 1) 88 20 uv k (gpre H k)
theorem MO.kept {WB W W' : World} {O k : Nat} {H : Gl} {uv : Value} (h : MO WB W O H k uv) (hg : W.grownBy W' none) : MO WB W' O H k uv :=
  ⟨h.bel.grown hg (by have := lt_of_cell h.o; simp only at this; omega) (fun k e => by cases e), hg.cell h.o (by simp), (hg.frozen_far ⟨O, 0, none⟩ (lt_of_cell h.o) (by simp)).trans h.fo, h.own.kept hg (by cases uv.ownBlock <;> simp)⟩
/-- and the row at R -/
structure TM (WB W : World) (O R K f : Nat) (H : Gl) (uv : Value) : Prop where
  mo : MO WB W O H K uv
  row : RowCells W R 0 (zG H K f) 0
  fr : ∀ j, W.frozen? ⟨R, j, none⟩ = false
  lt : O < R
  ne : uv.ownBlock ≠ some R
theorem TM.kept {WB W W' : World} {O R K f : Nat} {H : Gl} {uv : Value} (h : TM WB W O R K f H uv) (hg : W.grownBy W' none) : TM WB W' O R K f H uv := by
  have hR : R < W.heap.size := by
    have h1 := h.row 0 (by omega)
    have h2 : (rowA (zG H K f) 0).size = 20 := rfl
    rw [Array.getElem?_eq_getElem (by omega)] at h1
    exact lt_of_cell h1
  exact ⟨h.mo.kept hg, RowCells.kept h.row hg (by simp), fun j => (hg.frozen_far ⟨R, j, none⟩ hR (by simp)).trans (h.fr j), h.lt, h.ne⟩
/-- writes to the row's block -/
theorem MO.row {WB W W' : World} {O R k : Nat} {H : Gl} {uv : Value} (h : MO WB W O H k uv) (hO : O < R) (hne : uv.ownBlock ≠ some R) (hg : W.grownBy W' (some R)) : MO WB W' O H k uv :=
  ⟨h.bel.grown hg (by have := lt_of_cell h.o; simp only at this; omega) (fun k e => by cases e <;> omega), hg.cell h.o (by show some O ≠ some R; simp <;> omega), (hg.frozen_far ⟨O, 0, none⟩ (lt_of_cell h.o) (by show some O ≠ some R; simp <;> omega)).trans h.fo, h.own.kept hg (.inr hne)⟩
/-- a face is laid into the row -/
theorem TM.face {WB W : World} {O R K f : Nat} {H : Gl} {uv : Value} (hf : f < 4) (h : TM WB W O R K f H uv) (x : Int) :
    MO WB (((((W.setCell ⟨R, f * 5, none⟩ (.int .i64 x)).setCell ⟨R, f * 5 + 1, none⟩ (.int .i64 (H.pm (4 * K + f) 0))).setCell ⟨R, f * 5 + 2, none⟩ (.int .i64 (H.pm (4 * K + f) 1))).setCell ⟨R, f * 5 + 3, none⟩ (.int .i64 (H.pm (4 * K + f) 2))).setCell ⟨R, f * 5 + 4, none⟩ (.int .i64 (H.pm (4 * K + f) 3))) O H K uv ∧
    (∀ j, j < 20 → (((((W.setCell ⟨R, f * 5, none⟩ (.int .i64 x)).setCell ⟨R, f * 5 + 1, none⟩ (.int .i64 (H.pm (4 * K + f) 0))).setCell ⟨R, f * 5 + 2, none⟩ (.int .i64 (H.pm (4 * K + f) 1))).setCell ⟨R, f * 5 + 3, none⟩ (.int .i64 (H.pm (4 * K + f) 2))).setCell ⟨R, f * 5 + 4, none⟩ (.int .i64 (H.pm (4 * K + f) 3))).cell? ⟨R, j, none⟩ = if j = f * 5 then some (.int .i64 x) else (rowA (zG H K (f + 1)) 0)[j]?) ∧
    (∀ j, (((((W.setCell ⟨R, f * 5, none⟩ (.int .i64 x)).setCell ⟨R, f * 5 + 1, none⟩ (.int .i64 (H.pm (4 * K + f) 0))).setCell ⟨R, f * 5 + 2, none⟩ (.int .i64 (H.pm (4 * K + f) 1))).setCell ⟨R, f * 5 + 3, none⟩ (.int .i64 (H.pm (4 * K + f) 2))).setCell ⟨R, f * 5 + 4, none⟩ (.int .i64 (H.pm (4 * K + f) 3))).frozen? ⟨R, j, none⟩ = false) := by
  have hg : W.grownBy (((((W.setCell ⟨R, f * 5, none⟩ (.int .i64 x)).setCell ⟨R, f * 5 + 1, none⟩ (.int .i64 (H.pm (4 * K + f) 0))).setCell ⟨R, f * 5 + 2, none⟩ (.int .i64 (H.pm (4 * K + f) 1))).setCell ⟨R, f * 5 + 3, none⟩ (.int .i64 (H.pm (4 * K + f) 2))).setCell ⟨R, f * 5 + 4, none⟩ (.int .i64 (H.pm (4 * K + f) 3))) (some R) :=
    grownBy_trans (grownBy_trans (grownBy_trans (grownBy_trans (grownBy_setCell _ _ _ _) (grownBy_setCell _ _ _ _)) (grownBy_setCell _ _ _ _)) (grownBy_setCell _ _ _ _)) (grownBy_setCell _ _ _ _)
  refine ⟨h.mo.row h.lt h.ne hg, fun j hj => ?_, fun j => by simp only [World.frozen?_setCell]; exact h.fr j⟩
  have old : ∀ i, i < 5 → W.cell? ⟨R, f * 5 + i, none⟩ = some (.int .i64 0) := fun i hi => by
    have := h.row (f * 5 + i) (by omega)
    rw [Nat.zero_add] at this
    rw [this, zG_blank H K f hf i hi]
  have oth : ∀ (V : World) (o : Nat) (y : Value), o ≠ j → (V.setCell ⟨R, o, none⟩ y).cell? ⟨R, j, none⟩ = V.cell? ⟨R, j, none⟩ := fun V o y hn => World.cell?_setCell_other (a := ⟨R, o, none⟩) (b := ⟨R, j, none⟩) _ _ (by rintro ⟨⟩; exact hn rfl)
  have o0 := old 0 (by omega)
  have o1 := old 1 (by omega)
  have o2 := old 2 (by omega)
  have o3 := old 3 (by omega)
  have o4 := old 4 (by omega)
  rw [Nat.add_zero] at o0
  rw [zG_cell H K f hf j hj]
  by_cases h4 : j = f * 5 + 4
  · subst h4
    rw [World.cell?_setCell_same _ _ _ (by rw [oth _ _ _ (by omega), oth _ _ _ (by omega), oth _ _ _ (by omega), oth _ _ _ (by omega)]; exact o4)]
    simp
  · rw [oth _ _ _ (by omega)]
    by_cases h3 : j = f * 5 + 3
    · subst h3
      rw [World.cell?_setCell_same _ _ _ (by rw [oth _ _ _ (by omega), oth _ _ _ (by omega), oth _ _ _ (by omega)]; exact o3)]
      simp
    · rw [oth _ _ _ (by omega)]
      by_cases h2 : j = f * 5 + 2
      · subst h2
        rw [World.cell?_setCell_same _ _ _ (by rw [oth _ _ _ (by omega), oth _ _ _ (by omega)]; exact o2)]
        simp
      · rw [oth _ _ _ (by omega)]
        by_cases h1 : j = f * 5 + 1
        · subst h1
          rw [World.cell?_setCell_same _ _ _ (by rw [oth _ _ _ (by omega)]; exact o1)]
          simp
        · rw [oth _ _ _ (by omega)]
          by_cases h0 : j = f * 5
          · subst h0
            rw [World.cell?_setCell_same _ _ _ o0, if_pos rfl]
          · rw [oth _ _ _ (by omega), if_neg h0, if_neg h0, if_neg h1, if_neg h2, if_neg h3, if_neg h4]
            have := h.row j hj
            rw [Nat.zero_add] at this; exact this
end Go.Proofs.Ytlckpgahijlmoaa
