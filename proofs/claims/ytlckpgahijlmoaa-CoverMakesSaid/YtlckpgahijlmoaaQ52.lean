/- The law CoverMakes: its walk. -/
import Derived.Test.YtlckpgahijlmoaaQ51
import Derived.Deep.DeepAppendWide
import Derived.Test.YtlckpgahijlmoaaQ37
import Derived.Test.YtlckpgahijlmoaaQ15
/- cover's Project, exact. -/
namespace Go.Proofs.Ytlckpgahijlmoaa
open Go.RowKit Go.Shelf Go.Maps

/-- one copy more -/
theorem nums_copy (n k : Nat) : nums (fun i => ((i % n : Nat) : Int)) ((k + 1) * n) = nums (fun i => ((i % n : Nat) : Int)) (k * n) ++ nums (fun i => (i : Int)) n := by
  apply List.ext_getElem?
  intro i
  rcases Nat.lt_or_ge i (k * n) with h | h
  · rw [List.getElem?_append_left (by simpa [nums] using h)]
    have h2 : i < (k + 1) * n := by rw [Nat.succ_mul]; omega
    simp [nums, h, h2]
  · rw [List.getElem?_append_right (by simpa [nums] using h)]
    rcases Nat.lt_or_ge i ((k + 1) * n) with h2 | h2
    · have h3 : i - k * n < n := by rw [Nat.succ_mul] at h2; omega
      have h4 : i % n = i - k * n := by
        have : i = (i - k * n) + k * n := by omega
        rw [this, Nat.add_mul_mod_self_right, Nat.mod_eq_of_lt h3]; omega
      simp only [nums, List.getElem?_map, List.getElem?_range h2, List.getElem?_range h3, List.length_map, List.length_range, Option.map_some, h4]
    · have h3 : ¬ i - k * n < n := by rw [Nat.succ_mul] at h2; omega
      simp [nums, h2, h3]

section
variable (G : Gl) (v : Value) (sh : Int) (pv : Value) (np : Nat) (len : Nat → Nat) (fp : Nat → Nat → Int) (w : World) (hG : GlAt w.heap.size w v G) (hm : G.n ≤ 9223372036854775807) (hpv : LLs w.heap.size w pv np len fp) (hlen : ∀ k, k < np → len k < 4611686018427387904) (hnp : np < 4611686018427387904)
include hG hm hpv hlen hnp
set_option maxRecDepth 100000 in
set_option maxHeartbeats 2000000 in
theorem pproject_walk : Calls Try.prog 28 #[.agg #[v], .agg #[.int .i64 sh, pv]] w fun e w' => Below w.heap.size w w' ∧ ∃ u c, e = .returned (.tuple #[u, .int .i64 c]) ∧ AskedErr G sh np len fp c ∧ ((c ≠ 0 ∧ u = .slice none 0 0) ∨ (c = 0 ∧ SI w'.heap.size w' u (sh.toNat * G.n) (fun i => ((i % G.n : Nat) : Int)))) := by
  have HG := Lib.hid (And.intro hG (And.intro hpv hlen))
  obtain ⟨a, cap, rfl⟩ : ∃ a cap, v = .slice a G.n cap := by obtain ⟨a, _, _, cap, e, _⟩ := hG; exact ⟨a, cap, e⟩
  obtain ⟨pa, pc, rfl⟩ : ∃ a cap, pv = .slice a np cap := by obtain ⟨a, _, _, cap, e, _⟩ := hpv; exact ⟨a, cap, e⟩
  clear hG hpv hlen
  generalize hN : w.heap.size = N at *
  go_enter Try.func28, Try.ntmps28
  go_wp2_with fail
  refine wp_world_named fun W0 hW => ?_
  have hb : Below N w W0 := by rw [hW]; subst hN; (repeat' (first | assumption | exact Below.refl _ _ | refine below_then ?_ (by assumption) | refine below_al ?_ _ | refine below_dr ?_ | refine below_sc ?_ (by simp <;> omega) _))
  clear hW
  have HNN := Lib.hid hN
  have hs0 := hb.size
  refine (asked_walk G (.slice a G.n cap) sh (.slice pa np pc) np len fp W0 ((HG.out.1.below hb).mono (by omega)) hm ((HG.out.2.1.below hb).mono (by omega)) HG.out.2.2 hnp).mono ?_
  rintro e W1 ⟨hb1, h1⟩
  have hbw := hb.trans (hb1.mono (by omega))
  rcases h1.out with ⟨c, hc, rfl, he⟩ | ⟨Cv, B', X, mb, bv, vv, ev, tv, lv, dB, rB, rfl, he, hok, hcov, hCV⟩
  · have HE := Lib.hid (And.intro hbw (And.intro he hc))
    have q1 : (c != 0) = true := by simpa using hc
    clear hb hb1 h1 hbw he hc hN hs0
    go_wp2
    go_ret2
    exact ⟨HE.out.1, .slice none 0 0, c, rfl, HE.out.2.1, .inl ⟨HE.out.2.2, rfl⟩⟩
  · have hn : G.n ≤ 1000 := by simp only [checkB, Bool.and_eq_true, decide_eq_true_eq] at hok; exact hok.1
    have hs := hcov.small.1
    have c0 := hCV.c0
    have c1 := hCV.c1
    have x0 := hCV.sp.c0
    have hNs := hbw.size
    obtain ⟨s, hse⟩ : ∃ s, s = sh.toNat := ⟨_, rfl⟩
    rw [← hse] at c1 hs
    have hNW : N ≤ W1.heap.size := by have := HNN.out; omega
    have HX := Lib.hid (And.intro he hse)
    have HE := Lib.hid (And.intro hbw (And.intro c0 (And.intro c1 x0)))
    clear hb hb1 h1 hbw he hok hcov hCV hN hs0 hse hNs
    go_wp2
    clear c0 c1 x0
    go_loopw [8, 23] (fun u i wr => ∃ (k : Nat), k ≤ s ∧ i = .int .i64 k ∧ wr.ownsRow W1.heap.size 3 1 u (k * G.n) (nums (fun i => ((i % G.n : Nat) : Int)) (k * G.n)) ∧ Below W1.heap.size W1 wr) (fun _ i _ => s - (intOf i).toNat)
    case atStart => exact ⟨0, by omega, rfl, by rw [Nat.zero_mul]; exact World.ownsRow_nil _ _ _ _, Below.refl _ _⟩
    case round =>
      obtain ⟨k, hk, rfl, hO, hbr⟩ := hrel
      obtain ⟨xs, hxs⟩ : ∃ xs, xs = nums (fun i => ((i % G.n : Nat) : Int)) (k * G.n) := ⟨_, rfl⟩
      rw [← hxs] at hO
      have HXS := Lib.hid hxs
      clear hxs
      obtain ⟨ua, uc, rfl⟩ := ownsRow_form hO
      have HK := Lib.hid (And.intro hO hbr)
      have hbs := hbr.size
      rcases Nat.lt_or_ge k s with hks | hks
      · have c0 := (hbr.cell (p := ⟨Cv, 0, none⟩) (lt_of_cell HE.out.2.1)).trans HE.out.2.1
        have x0 := (hbr.cell (p := ⟨X, 0, none⟩) (lt_of_cell HE.out.2.2.2)).trans HE.out.2.2.2
        have hkn : k * G.n ≤ 24000 := Nat.le_trans (Nat.mul_le_mul (show k ≤ 24 by omega) hn) (by omega)
        obtain ⟨L, hL⟩ : ∃ L, L = k * G.n := ⟨_, rfl⟩
        have hL1 : (k + 1) * G.n = L + G.n := by rw [hL, Nat.succ_mul]
        rw [← hL] at hkn HK ⊢
        have HL := Lib.hid (And.intro hL hL1)
        clear hO hbr hL hL1
        obtain ⟨n, hne⟩ : ∃ n, n = G.n := ⟨_, rfl⟩
        rw [← hne] at hn x0 HL ⊢
        have HNe := Lib.hid hne
        clear hne
        obtain ⟨j0, hj0, hy0, hy1, hy2⟩ := info_parts info3
        have h42 := fun W => identity_walk n (by omega) W
        have H42 := Lib.hid h42
        clear h42
        have one : ∀ u ∈ nums (fun i => (i : Int)) n, u.oneCell' = true := fun u hu => by
          simp only [nums, List.mem_map] at hu
          obtain ⟨i, _, rfl⟩ := hu
          rfl
        have HO := Lib.hid one
        clear one
        go_wp2_with (first
          | (go_at_call 42; (with_reducible refine (H42.out _).mono ?_); rintro e w4 ⟨rfl, hrow, hb4⟩; have H4 := Lib.hid (And.intro hrow hb4); clear hrow hb4)
          | (at_builtin; refine (wpList_append_own_wide _ rfl (.tmp 25) (.tmp 35) 35 rfl W1.heap.size 3 j0 _ 1 8 und35 hj0 hy0 hy1 hy2 rfl (by omega) (.slice ua L uc) L xs rfl (HK.out.1.kept (below_grown H4.out.2 (Nat.le_refl _) none) (by cases ua <;> simp [Value.ownBlock])) ⟨wr.heap.size, 0, none⟩ n n (nums (fun i => (i : Int)) n) rfl (by simp [nums]) (fun j u hu => by
              have hj : j < n := by have := (List.getElem?_eq_some_iff.1 hu).1; simpa [nums] using this
              simp only [nums, List.getElem?_map, List.getElem?_range hj, Option.map_some, Option.some.injEq] at hu
              subst hu
              rw [Addr.add_mid, Nat.zero_add]
              exact H4.out.1.cell hj) HO.out (by unfold maxLen; omega) (by omega) (by have := H4.out.2.size; omega) ?_); intro v5 w5 r1 r2 r3; obtain ⟨g5, c5, rfl⟩ := ownsRow_form r1; have HR := Lib.hid (And.intro r1 r2); clear r1 r2 r3))
        exact ⟨⟨k + 1, by omega, by simp, by rw [nums_copy]; have hx := HXS.out; rw [← HNe.out] at hx; rw [← hx, HL.out.2]; exact HR.out.1, (HK.out.2.trans (H4.out.2.mono hbs)).grown HR.out.2 (by have := H4.out.2.size; omega) (fun r e => (HK.out.1.lt r e).1)⟩, by simp [intOf]; omega⟩
      · obtain rfl : k = s := by omega
        clear hO hbr
        go_wp2
        go_ret2
        exact ⟨HE.out.1.trans (HK.out.2.mono hNW), .slice ua (k * G.n) uc, 0, rfl, HX.out.1, .inr ⟨rfl, by rw [← HX.out.2]; exact SI.of_own (by rw [← HXS.out]; exact HK.out.1)⟩⟩
end
end Go.Proofs.Ytlckpgahijlmoaa
/- The law CoverMakes: its calls. -/
namespace Go.Proofs.Ytlckpgahijlmoaa
open Go.RowKit Go.Shelf Go.Maps

/-- the gluing of no tetrahedra -/
def noG : Gl where
  n := 0
  tet := fun _ => 0
  pm := fun _ _ => 0
theorem noG_at (B : Nat) (W : World) : GlAt B W (.slice none 0 0) noG :=
  ⟨none, 0, 0, 0, rfl, fun h => absurd h (Nat.lt_irrefl 0), fun k hk => absurd hk (Nat.not_lt_zero k)⟩
theorem SI.none (B : Nat) (W : World) (f : Nat → Int) : SI B W (.slice none 0 0) 0 f :=
  ⟨Option.none, 0, 0, 0, rfl, fun h => by omega, fun k hk => by omega⟩
section
variable (G : Gl) (S : Int) (np : Nat) (len : Nat → Nat) (fp : Nat → Nat → Int)
/-- what Make returns -/
noncomputable def mkG : Gl := if rerI G S np len fp = 0 then covG G fp (fun k => invP (fp k) S.toNat) S.toNat else noG
/-- how many numbers Project returns -/
noncomputable def mkN : Nat := if rerI G S np len fp = 0 then S.toNat * G.n else 0
/-- what Regular returns -/
noncomputable def mkB : Bool := if rerI G S np len fp = 0 then regB (covG G fp (fun k => invP (fp k) S.toNat) S.toNat) G.n S.toNat else false
theorem mkG_small : (mkG G S np len fp).n ≤ 1000 := by
  unfold mkG
  split
  · rename_i h; exact (rerI_zero h).2.small.2
  · show 0 ≤ 1000; omega
theorem mkN_small : mkN G S np len fp ≤ 1000 := by
  unfold mkN
  split
  · rename_i h; exact (rerI_zero h).2.small.2
  · omega
variable {G S np len fp} {v pv : Value} {w : World} (hG : GlAt w.heap.size w v G) (hm : G.n ≤ 9223372036854775807) (hpv : LLc w.heap.size w pv np len fp) (hlen : ∀ k, k < np → len k < 4611686018427387904) (hnp : np < 4611686018427387904)
include hG hm hpv hlen hnp
theorem mk25 : Calls Try.prog 25 #[.agg #[v], .agg #[.int .i64 S, pv]] w fun e w' => ∃ ua uc, e = .returned (.tuple #[.agg #[.slice ua (mkG G S np len fp).n uc], .int .i64 (rerI G S np len fp)]) ∧ GlAt w'.heap.size w' (.slice ua (mkG G S np len fp).n uc) (mkG G S np len fp) ∧ Below w.heap.size w w' :=
  (rmake_walk G v S pv np len fp w hG hm hpv hlen hnp).mono (by
    rintro e w' ⟨hb, u, rfl, ⟨h0, rfl⟩ | ⟨h0, hg⟩⟩
    · have : mkG G S np len fp = noG := if_neg h0
      rw [this]; exact ⟨none, 0, rfl, noG_at _ _, hb⟩
    · have : mkG G S np len fp = covG G fp (fun k => invP (fp k) S.toNat) S.toNat := if_pos h0
      rw [← this] at hg
      obtain ⟨a, _, _, c, rfl, _⟩ := id hg
      exact ⟨a, c, rfl, hg, hb⟩)
theorem mk11 : Calls Try.prog 11 #[.agg #[v], .agg #[.int .i64 S, pv]] w fun e w' => ∃ ua uc, e = .returned (.tuple #[.agg #[.slice ua (mkG G S np len fp).n uc], .int .i64 (rerI G S np len fp)]) ∧ GlAt w'.heap.size w' (.slice ua (mkG G S np len fp).n uc) (mkG G S np len fp) ∧ Below w.heap.size w w' :=
  (coverMake_walk G v S pv np len fp w hG hm hpv.LLs hlen hnp).mono (by
    rintro e w' ⟨hb, c, u, rfl, he, hu⟩
    obtain rfl := asked_rerI he
    rcases hu with ⟨h0, rfl⟩ | ⟨h0, _, hg⟩
    · have : mkG G S np len fp = noG := if_neg h0
      rw [this]; exact ⟨none, 0, rfl, noG_at _ _, hb⟩
    · have : mkG G S np len fp = covG G fp (fun k => invP (fp k) S.toNat) S.toNat := if_pos h0
      rw [← this] at hg
      obtain ⟨a, _, _, c, rfl, _⟩ := id hg
      exact ⟨a, c, rfl, hg, hb⟩)
theorem mk26 : Calls Try.prog 26 #[.agg #[v], .agg #[.int .i64 S, pv]] w fun e w' => ∃ u, e = .returned (.tuple #[u, .int .i64 (rerI G S np len fp)]) ∧ SI w'.heap.size w' u (mkN G S np len fp) (fun i => ((i % G.n : Nat) : Int)) ∧ Below w.heap.size w w' :=
  (rproject_walk G v S pv np len fp w hG hm hpv hlen hnp).mono (by
    rintro e w' ⟨hb, u, rfl, ⟨h0, rfl⟩ | ⟨h0, hg⟩⟩
    · have : mkN G S np len fp = 0 := if_neg h0
      rw [this]; exact ⟨_, rfl, SI.none _ _ _, hb⟩
    · have : mkN G S np len fp = S.toNat * G.n := if_pos h0
      rw [this]; exact ⟨_, rfl, hg, hb⟩)
theorem mk28 : Calls Try.prog 28 #[.agg #[v], .agg #[.int .i64 S, pv]] w fun e w' => ∃ u, e = .returned (.tuple #[u, .int .i64 (rerI G S np len fp)]) ∧ SI w'.heap.size w' u (mkN G S np len fp) (fun i => ((i % G.n : Nat) : Int)) ∧ Below w.heap.size w w' :=
  (pproject_walk G v S pv np len fp w hG hm hpv.LLs hlen hnp).mono (by
    rintro e w' ⟨hb, u, c, rfl, he, hu⟩
    obtain rfl := asked_rerI he
    rcases hu with ⟨h0, rfl⟩ | ⟨h0, hg⟩
    · have : mkN G S np len fp = 0 := if_neg h0
      rw [this]; exact ⟨_, rfl, SI.none _ _ _, hb⟩
    · have : mkN G S np len fp = S.toNat * G.n := if_pos h0
      rw [this]; exact ⟨_, rfl, hg, hb⟩)
theorem mk27 : Calls Try.prog 27 #[.agg #[v], .agg #[.int .i64 S, pv]] w fun e w' => e = .returned (.tuple #[.bool (mkB G S np len fp), .int .i64 (rerI G S np len fp)]) ∧ Below w.heap.size w w' :=
  (rregular_walk G v S pv np len fp w hG hm hpv hlen hnp).mono (by
    rintro e w' ⟨hb, b, rfl, ⟨h0, rfl⟩ | ⟨h0, rfl⟩⟩
    · have : mkB G S np len fp = false := if_neg h0
      rw [this]; exact ⟨rfl, hb⟩
    · have : mkB G S np len fp = regB (covG G fp (fun k => invP (fp k) S.toNat) S.toNat) G.n S.toNat := if_pos h0
      rw [this]; exact ⟨rfl, hb⟩)
theorem mk29 : Calls Try.prog 29 #[.agg #[v], .agg #[.int .i64 S, pv]] w fun e w' => e = .returned (.tuple #[.bool (mkB G S np len fp), .int .i64 (rerI G S np len fp)]) ∧ Below w.heap.size w w' :=
  (pregular_walk G v S pv np len fp w hG hm hpv.LLs hlen hnp).mono (by
    rintro e w' ⟨hb, b, c, rfl, he, hu⟩
    obtain rfl := asked_rerI he
    rcases hu with ⟨h0, rfl⟩ | ⟨h0, rfl⟩
    · have : mkB G S np len fp = false := if_neg h0
      rw [this]; exact ⟨rfl, hb⟩
    · have : mkB G S np len fp = regB (covG G fp (fun k => invP (fp k) S.toNat) S.toNat) G.n S.toNat := if_pos h0
      rw [this]; exact ⟨rfl, hb⟩)
theorem mk14 : Calls Try.prog 14 #[.agg #[v], .agg #[.int .i64 S, pv]] w fun e w' => e = .returned (.int .i64 (rerI G S np len fp)) ∧ Below w.heap.size w w' :=
  (coverCheck_walk G v S pv np len fp w hG hm hpv.LLs hlen hnp).mono (by
    rintro e w' ⟨hb, c, rfl, he⟩
    obtain rfl := asked_rerI he
    exact ⟨rfl, hb⟩)
end
end Go.Proofs.Ytlckpgahijlmoaa
namespace Go.Proofs.Ytlckpgahijlmoaa
open Go.RowKit Go.Shelf Go.Maps

/-- the boxes of the law: the gluing and the covering -/
structure MS (w : World) (N : Nat) (a : Option Addr) (n cap : Nat) (S : Int) (pa : Option Addr) (np pc : Nat) (W : World) : Prop where
  bel : Below N w W
  c0 : W.cell? ⟨N, 0, none⟩ = some (.slice a n cap)
  c1 : W.cell? ⟨N + 1, 0, none⟩ = some (.int .i64 S)
  c2 : W.cell? ⟨N + 1, 1, none⟩ = some (.slice pa np pc)
theorem MS.below {w W W' : World} {N : Nat} {a : Option Addr} {n cap : Nat} {S : Int} {pa : Option Addr} {np pc : Nat} (h : MS w N a n cap S pa np pc W) (hb : Below W.heap.size W W') : MS w N a n cap S pa np pc W' := by
  have hg := below_grown hb (Nat.le_refl _) none
  have hN := lt_of_cell h.c0
  simp only at hN
  exact ⟨h.bel.trans (hb.mono (by omega)), hg.cell h.c0 (by simp), hg.cell h.c1 (by simp), hg.cell h.c2 (by simp)⟩
/-- a gluing in a box of the law -/
structure MX (W : World) (D : Nat) (ua : Option Addr) (uc : Nat) (H : Gl) : Prop where
  c : W.cell? ⟨D, 0, none⟩ = some (.slice ua H.n uc)
  g : GlAt W.heap.size W (.slice ua H.n uc) H
theorem MX.below {W W' : World} {D : Nat} {ua : Option Addr} {uc : Nat} {H : Gl} (h : MX W D ua uc H) (hb : Below W.heap.size W W') : MX W' D ua uc H :=
  ⟨(below_grown hb (Nat.le_refl _) none).cell h.c (by simp), (h.g.below hb).mono hb.size⟩
theorem SI.keep {W W' : World} {u : Value} {n : Nat} {f : Nat → Int} (h : SI W.heap.size W u n f) (hb : Below W.heap.size W W') : SI W'.heap.size W' u n f := (h.below hb).mono hb.size
theorem SI.form {B : Nat} {W : World} {u : Value} {n : Nat} {f : Nat → Int} (h : SI B W u n f) : ∃ a c, u = .slice a n c := by
  obtain ⟨a, _, _, c, e, _⟩ := h; exact ⟨a, c, e⟩
theorem sameB_self (n : Nat) (f : Nat → Int) : sameB n f n f = true := by unfold sameB; simp
section
variable (G : Gl) (v : Value) (S : Int) (pv : Value) (np : Nat) (len : Nat → Nat) (fp : Nat → Nat → Int) (w : World) (hG : GlAt w.heap.size w v G) (hm : G.n ≤ 9223372036854775807) (hpv : LLc w.heap.size w pv np len fp) (hlen : ∀ k, k < np → len k < 4611686018427387904) (hnp : np < 4611686018427387904)
include hG hm hpv hlen hnp
set_option maxRecDepth 100000 in
set_option maxHeartbeats 4000000 in
theorem makes_walk : Calls Try.prog 6 #[.agg #[v], .agg #[.int .i64 S, pv]] w fun e w' => e = .returned (.bool true) ∧ Below w.heap.size w w' := by
  obtain ⟨a, cap, rfl⟩ : ∃ a c, v = .slice a G.n c := by obtain ⟨a, _, _, c, e, _⟩ := hG; exact ⟨a, c, e⟩
  obtain ⟨pa, pc, rfl⟩ : ∃ a c, pv = .slice a np c := by obtain ⟨a, _, _, c, e, _⟩ := hpv; exact ⟨a, c, e⟩
  have hcc := fun W (h : MS w w.heap.size a G.n cap S pa np pc W) =>
    have g : GlAt W.heap.size W (.slice a G.n cap) G := (hG.below h.bel).mono h.bel.size
    have p : LLc W.heap.size W (.slice pa np pc) np len fp := (hpv.below h.bel).mono h.bel.size
    And.intro (mk25 (S := S) g hm p hlen hnp) (And.intro (mk26 (S := S) g hm p hlen hnp) (And.intro (mk27 (S := S) g hm p hlen hnp) (And.intro (mk11 (S := S) g hm p hlen hnp) (And.intro (mk28 (S := S) g hm p hlen hnp) (And.intro (mk29 (S := S) g hm p hlen hnp) (And.intro (mk14 (S := S) g hm p hlen hnp) (rcheck_walk G _ S _ np len fp W g hm p hlen hnp)))))))
  have hgs := mkG_small G S np len fp
  have hns := mkN_small G S np len fp
  obtain ⟨K, hK⟩ : ∃ K, K = mkG G S np len fp := ⟨_, rfl⟩
  obtain ⟨R, hR⟩ : ∃ R, R = mkN G S np len fp := ⟨_, rfl⟩
  obtain ⟨bb, hbb⟩ : ∃ b, b = mkB G S np len fp := ⟨_, rfl⟩
  obtain ⟨er, her⟩ : ∃ r, r = rerI G S np len fp := ⟨_, rfl⟩
  rw [← hK] at hgs
  rw [← hR] at hns
  rw [← hK, ← hR, ← hbb, ← her] at hcc
  clear hK hR hbb her hG hm hpv hlen hnp
  have HS := Lib.hid (And.intro hgs hns)
  clear hgs hns
  generalize hN : w.heap.size = N at *
  have HC := Lib.hid hcc
  clear hcc
  go_enter Try.func6, Try.ntmps6
  have hb0 : ∀ o1 o2, Below w.heap.size w ((w.alloc o1).alloc o2) := fun o1 o2 => by (repeat' (first | assumption | exact Below.refl _ _ | refine below_then ?_ (by assumption) | refine below_al ?_ _ | refine below_dr ?_ | refine below_sc ?_ (by simp <;> omega) _))
  rw [hN] at hb0
  have HB0 := Lib.hid hb0
  clear hb0
  rcases Nat.lt_or_ge 12 G.n with g0 | g0
  · have q0 : decide ((12 : Int) < (G.n : Int)) = true := by simp; omega
    go_wp2_with ((go_at_call 9; (with_reducible refine (sane_walk _).mono ?_); rintro e w4 ⟨rfl, hb4⟩; have HB4 := Lib.hid ((HB0.out _ _).trans (hb4.mono (by simp; omega))); clear hb4))
    go_ret
    exact ⟨rfl, HB4.out⟩
  have q0 : decide ((12 : Int) < (G.n : Int)) = false := by simp; omega
  go_wp2_with fail
  refine wp_world_named fun W0 hW => ?_
  have h0 : MS w N a G.n cap S pa np pc W0 := by
    rw [hW]; exact ⟨HB0.out _ _, by subst hN; simp [go_sem], by subst hN; simp [go_sem], by subst hN; simp [go_sem]⟩
  clear hW
  refine (HC.out _ h0).1.mono ?_
  rintro e W1 ⟨ua, uc, rfl, hg1, hb1⟩
  have h1 := h0.below hb1
  have y0 := cell_al h1.c0
  have y1 := cell_al h1.c1
  have y2 := cell_al h1.c2
  have H1 := Lib.hid (And.intro h1 hg1)
  clear h0 hb1 h1 hg1
  go_wp2_with fail
  refine wp_world_named fun W2 hW => ?_
  obtain ⟨D, hD⟩ : ∃ D, D = W1.heap.size := ⟨_, rfl⟩
  rw [← hD]
  have hb2 : Below W1.heap.size W1 W2 := by rw [hW]; (repeat' (first | assumption | exact Below.refl _ _ | refine below_then ?_ (by assumption) | refine below_al ?_ _ | refine below_dr ?_ | refine below_sc ?_ (by simp <;> omega) _))
  have h2 := H1.out.1.below hb2
  have hx2 : MX W2 D ua uc K := ⟨by rw [hW, hD]; simp [go_sem], (H1.out.2.below hb2).mono hb2.size⟩
  clear hW hD hb2 H1 y0 y1 y2
  refine (HC.out _ h2).2.1.mono ?_
  rintro e W3 ⟨u3, rfl, hs3, hb3⟩
  have h3 := h2.below hb3
  have hx3 := hx2.below hb3
  obtain ⟨ra, rc, rfl⟩ := hs3.form
  have y0 := h3.c0
  have y1 := h3.c1
  have y2 := h3.c2
  have H3 := Lib.hid (And.intro h3 (And.intro hx3 hs3))
  clear h2 hb3 h3 hx2 hx3 hs3
  go_wp2_with fail
  refine (HC.out _ H3.out.1).2.2.1.mono ?_
  rintro e W4 ⟨rfl, hb4⟩
  have h4 := H3.out.1.below hb4
  have H4 := Lib.hid (And.intro h4 (And.intro (H3.out.2.1.below hb4) (H3.out.2.2.keep hb4)))
  clear y0 y1 y2 hb4 H3
  have y0 := h4.c0
  have y1 := h4.c1
  have y2 := h4.c2
  clear h4
  go_wp2_with fail
  refine (HC.out _ H4.out.1).2.2.2.1.mono ?_
  rintro e W5 ⟨va, vc, rfl, hg5, hb5⟩
  have h5 := H4.out.1.below hb5
  have H5 := Lib.hid (And.intro h5 (And.intro (H4.out.2.1.below hb5) (And.intro (H4.out.2.2.keep hb5) hg5)))
  clear y0 y1 y2 hb5 H4 hg5
  have y0 := cell_al h5.c0
  have y1 := cell_al h5.c1
  have y2 := cell_al h5.c2
  clear h5
  go_wp2_with fail
  refine wp_world_named fun W6 hW => ?_
  obtain ⟨E, hE⟩ : ∃ E, E = W5.heap.size := ⟨_, rfl⟩
  rw [← hE]
  have hb6 : Below W5.heap.size W5 W6 := by rw [hW]; (repeat' (first | assumption | exact Below.refl _ _ | refine below_then ?_ (by assumption) | refine below_al ?_ _ | refine below_dr ?_ | refine below_sc ?_ (by simp <;> omega) _))
  have h6 := H5.out.1.below hb6
  have hx6 : MX W6 E va vc K := ⟨by rw [hW, hE]; simp [go_sem], (H5.out.2.2.2.below hb6).mono hb6.size⟩
  have hy6 := H5.out.2.1.below hb6
  have hs6 := H5.out.2.2.1.keep hb6
  clear hW hE hb6 H5 y0 y1 y2
  refine (HC.out _ h6).2.2.2.2.1.mono ?_
  rintro e W7 ⟨u7, rfl, ht7, hb7⟩
  obtain ⟨ta, tc, rfl⟩ := ht7.form
  have h7 := h6.below hb7
  have H7 := Lib.hid (And.intro h7 (And.intro (hx6.below hb7) (And.intro (hy6.below hb7) (And.intro (hs6.keep hb7) ht7))))
  clear h6 hx6 hy6 hs6 ht7 hb7
  have y0 := h7.c0
  have y1 := h7.c1
  have y2 := h7.c2
  clear h7
  go_wp2_with fail
  refine (HC.out _ H7.out.1).2.2.2.2.2.1.mono ?_
  rintro e W8 ⟨rfl, hb8⟩
  have h8 := H7.out.1.below hb8
  have hz := fun W (hb : Below W8.heap.size W8 W) =>
    have hv := hb8.trans (hb.mono hb8.size)
    And.intro (h8.below hb) (And.intro (H7.out.2.1.below hv) (And.intro (H7.out.2.2.1.below hv) (And.intro (H7.out.2.2.2.1.keep hv) (H7.out.2.2.2.2.keep hv))))
  have HZ := Lib.hid hz
  clear h8 hz hb8 H7 y0 y1 y2
  have hcells := fun W (hb : Below W8.heap.size W8 W) => And.intro (HZ.out W hb).1.c0 (And.intro (HZ.out W hb).1.c1 (And.intro (HZ.out W hb).1.c2 (And.intro (HZ.out W hb).2.1.c (HZ.out W hb).2.2.1.c)))
  have HCL := Lib.hid hcells
  have y := hcells W8 (Below.refl _ _)
  obtain ⟨y0, y1, y2, y3, y4⟩ := y
  clear hcells
  have c15 := fun W (hb : Below W8.heap.size W8 W) => Same_walk K (by have := HS.out.1; omega) W W.heap.size _ _ (Nat.le_refl _) (HZ.out W hb).2.1.g (HZ.out W hb).2.2.1.g
  have c31 := fun W (hb : Below W8.heap.size W8 W) => SameInts_walk R R _ _ (by have := HS.out.2; omega) W.heap.size W _ _ (HZ.out W hb).2.2.2.2 (HZ.out W hb).2.2.2.1
  have HCC := Lib.hid (And.intro c15 c31)
  clear c15 c31
  go_wp2
  go_region_held3 (fun w' => w'.cell? ⟨N, 0, none⟩ = some (.slice a G.n cap) ∧ w'.cell? ⟨N + 1, 0, none⟩ = some (.int .i64 S) ∧ w'.cell? ⟨N + 1, 1, none⟩ = some (.slice pa np pc) ∧ w'.cell? ⟨E, 0, none⟩ = some (.slice va K.n vc) ∧ w'.cell? ⟨D, 0, none⟩ = some (.slice ua K.n uc))
    (exact HCL.out _ (by (repeat' (first | assumption | exact Below.refl _ _ | refine below_then ?_ (by assumption) | refine below_al ?_ _ | refine below_dr ?_ | refine below_sc ?_ (by simp <;> omega) _))))
    (first
      | (go_at_call 9; (with_reducible refine (sane_walk _).mono ?_); rintro e w1 ⟨rfl, hb1⟩)
      | (go_at_call 14; (with_reducible refine (HC.out _ (HZ.out _ (by (repeat' (first | assumption | exact Below.refl _ _ | refine below_then ?_ (by assumption) | refine below_al ?_ _ | refine below_dr ?_ | refine below_sc ?_ (by simp <;> omega) _)))).1).2.2.2.2.2.2.1.mono ?_); rintro e w2 ⟨rfl, hb2⟩)
      | (go_at_call 30; (with_reducible refine (HC.out _ (HZ.out _ (by (repeat' (first | assumption | exact Below.refl _ _ | refine below_then ?_ (by assumption) | refine below_al ?_ _ | refine below_dr ?_ | refine below_sc ?_ (by simp <;> omega) _)))).1).2.2.2.2.2.2.2.mono ?_); rintro e w3 ⟨rfl, hb3⟩)
      | (go_at_call 15; (with_reducible refine (HCC.out.1 _ (by (repeat' (first | assumption | exact Below.refl _ _ | refine below_then ?_ (by assumption) | refine below_al ?_ _ | refine below_dr ?_ | refine below_sc ?_ (by simp <;> omega) _)))).mono ?_); rintro e w4 ⟨rfl, hb4⟩)
      | (go_at_call 31; (with_reducible refine (HCC.out.2 _ (by (repeat' (first | assumption | exact Below.refl _ _ | refine below_then ?_ (by assumption) | refine below_al ?_ _ | refine below_dr ?_ | refine below_sc ?_ (by simp <;> omega) _)))).mono ?_); rw [sameB_self]; rintro e w5 ⟨rfl, hb5⟩))
  all_goals go_wp2
  all_goals go_ret
  all_goals exact ⟨rfl, (HZ.out _ (by (repeat' (first | assumption | exact Below.refl _ _ | refine below_then ?_ (by assumption) | refine below_al ?_ _ | refine below_dr ?_ | refine below_sc ?_ (by simp <;> omega) _)))).1.bel⟩
end
end Go.Proofs.Ytlckpgahijlmoaa
