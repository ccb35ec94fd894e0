/- cover's Project: it returns, and turns nothing. -/
import Derived.Test.YtlckpgahijlmoaaQ41
import Derived.Deep.DeepAppendWide
namespace Go.Proofs.Ytlckpgahijlmoaa
open Go.RowKit Go.Shelf Go.Maps

section
variable (G : Gl) (v : Value) (sh : Int) (pv : Value) (np : Nat) (len : Nat → Nat) (fp : Nat → Nat → Int) (w : World) (hG : GlAt w.heap.size w v G) (hm : G.n ≤ 9223372036854775807) (hpv : LLs w.heap.size w pv np len fp) (hlen : ∀ k, k < np → len k < 4611686018427387904) (hnp : np < 4611686018427387904)
include hG hm hpv hlen hnp
set_option maxRecDepth 100000 in
set_option maxHeartbeats 2000000 in
theorem Project_walk : Calls Try.prog 28 #[.agg #[v], .agg #[.int .i64 sh, pv]] w fun e w' => Below w.heap.size w w' ∧ ∃ x, e = .returned x := by
  have HG := Lib.hid (And.intro hG (And.intro hpv hlen))
  obtain ⟨a, cap, rfl⟩ : ∃ a cap, v = .slice a G.n cap := by obtain ⟨a, _, _, cap, e, _⟩ := hG; exact ⟨a, cap, e⟩
  obtain ⟨pa, pc, rfl⟩ : ∃ a cap, pv = .slice a np cap := by obtain ⟨a, _, _, cap, e, _⟩ := hpv; exact ⟨a, cap, e⟩
  clear hG hpv hlen
  generalize hN : w.heap.size = N at *
  go_enter Try.func28, Try.ntmps28
  go_wp2_with fail
  refine wp_world_named fun W0 hW => ?_
  have hb : Below N w W0 := by rw [hW]; subst hN; (repeat' (first | assumption | exact Below.refl _ _ | refine below_then ?_ (by assumption) | refine below_al ?_ _ | refine below_dr ?_ | refine below_sc ?_ (by simp <;> omega) _))
  clear hW
  have HNN := Lib.hid hN
  have hs0 := hb.size
  refine (asked_walk G (.slice a G.n cap) sh (.slice pa np pc) np len fp W0 ((HG.out.1.below hb).mono (by omega)) hm ((HG.out.2.1.below hb).mono (by omega)) HG.out.2.2 hnp).mono ?_
  rintro e W1 ⟨hb1, h1⟩
  have hbw := hb.trans (hb1.mono (by omega))
  rcases h1.out with ⟨c, hc, rfl, he⟩ | ⟨Cv, B', X, mb, bv, vv, ev, tv, lv, dB, rB, rfl, he, hok, hcov, hCV⟩
  · have HE := Lib.hid hbw
    have q1 : (c != 0) = true := by simpa using hc
    clear hb hb1 h1 hbw he hc hN hs0
    go_wp2
    go_ret2
    exact ⟨HE.out, _, rfl⟩
  · have hn : G.n ≤ 1000 := by simp only [checkB, Bool.and_eq_true, decide_eq_true_eq] at hok; exact hok.1
    have hs := hcov.small.1
    have c0 := hCV.c0
    have c1 := hCV.c1
    have x0 := hCV.sp.c0
    have hNs := hbw.size
    obtain ⟨s, hse⟩ : ∃ s, s = sh.toNat := ⟨_, rfl⟩
    rw [← hse] at c1 hs
    have hNW : N ≤ W1.heap.size := by have := HNN.out; omega
    have HE := Lib.hid (And.intro hbw (And.intro c0 (And.intro c1 x0)))
    clear hb hb1 h1 hbw he hok hcov hCV hN hs0 hse hNs
    go_wp2
    clear c0 c1 x0
    go_loopw [8, 23] (fun u i wr => ∃ (k : Nat) (xs : List Value), k ≤ s ∧ i = .int .i64 k ∧ wr.ownsRow W1.heap.size 3 1 u (k * G.n) xs ∧ Below W1.heap.size W1 wr) (fun _ i _ => s - (intOf i).toNat)
    case atStart => exact ⟨0, [], by omega, rfl, by rw [Nat.zero_mul]; exact World.ownsRow_nil _ _ _ _, Below.refl _ _⟩
    case round =>
      obtain ⟨k, xs, hk, rfl, hO, hbr⟩ := hrel
      obtain ⟨ua, uc, rfl⟩ := ownsRow_form hO
      have HK := Lib.hid (And.intro hO hbr)
      have hbs := hbr.size
      rcases Nat.lt_or_ge k s with hks | hks
      · have c0 := (hbr.cell (p := ⟨Cv, 0, none⟩) (lt_of_cell HE.out.2.1)).trans HE.out.2.1
        have x0 := (hbr.cell (p := ⟨X, 0, none⟩) (lt_of_cell HE.out.2.2.2)).trans HE.out.2.2.2
        have hkn : k * G.n ≤ 24000 := Nat.le_trans (Nat.mul_le_mul (show k ≤ 24 by omega) hn) (by omega)
        obtain ⟨L, hL⟩ : ∃ L, L = k * G.n := ⟨_, rfl⟩
        have hL1 : (k + 1) * G.n = L + G.n := by rw [hL, Nat.succ_mul]
        rw [← hL] at hkn HK ⊢
        have HL := Lib.hid (And.intro hL hL1)
        clear hO hbr hL hL1
        obtain ⟨n, hne⟩ : ∃ n, n = G.n := ⟨_, rfl⟩
        rw [← hne] at hn x0 HL ⊢
        have HNe := Lib.hid hne
        clear hne
        obtain ⟨j0, hj0, hy0, hy1, hy2⟩ := info_parts info3
        have h42 := fun W => identity_walk n (by omega) W
        have H42 := Lib.hid h42
        clear h42
        have one : ∀ u ∈ nums (fun i => (i : Int)) n, u.oneCell' = true := fun u hu => by
          simp only [nums, List.mem_map] at hu
          obtain ⟨i, _, rfl⟩ := hu
          rfl
        have HO := Lib.hid one
        clear one
        go_wp2_with (first
          | (go_at_call 42; (with_reducible refine (H42.out _).mono ?_); rintro e w4 ⟨rfl, hrow, hb4⟩; have H4 := Lib.hid (And.intro hrow hb4); clear hrow hb4)
          | (at_builtin; refine (wpList_append_own_wide _ rfl (.tmp 25) (.tmp 35) 35 rfl W1.heap.size 3 j0 _ 1 8 und35 hj0 hy0 hy1 hy2 rfl (by omega) (.slice ua L uc) L xs rfl (HK.out.1.kept (below_grown H4.out.2 (Nat.le_refl _) none) (by cases ua <;> simp [Value.ownBlock])) ⟨wr.heap.size, 0, none⟩ n n (nums (fun i => (i : Int)) n) rfl (by simp [nums]) (fun j u hu => by
              have hj : j < n := by have := (List.getElem?_eq_some_iff.1 hu).1; simpa [nums] using this
              simp only [nums, List.getElem?_map, List.getElem?_range hj, Option.map_some, Option.some.injEq] at hu
              subst hu
              rw [Addr.add_mid, Nat.zero_add]
              exact H4.out.1.cell hj) HO.out (by unfold maxLen; omega) (by omega) (by have := H4.out.2.size; omega) ?_); intro v5 w5 r1 r2 r3; obtain ⟨g5, c5, rfl⟩ := ownsRow_form r1; have HR := Lib.hid (And.intro r1 r2); clear r1 r2 r3))
        exact ⟨⟨k + 1, _, by omega, by simp, by rw [HL.out.2]; exact HR.out.1, (HK.out.2.trans (H4.out.2.mono hbs)).grown HR.out.2 (by have := H4.out.2.size; omega) (fun r e => (HK.out.1.lt r e).1)⟩, by simp [intOf]; omega⟩
      · obtain rfl : k = s := by omega
        clear hO hbr
        go_wp2
        go_ret2
        exact ⟨HE.out.1.trans (HK.out.2.mono hNW), _, rfl⟩
end
end Go.Proofs.Ytlckpgahijlmoaa
