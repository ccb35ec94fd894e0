/- cover's Image: it returns, and turns nothing. -/
import Derived.Test.YtlckpgahijlmoaaQ45
import Derived.Test.YtlckpgahijlmoaaQ47
namespace Go.Proofs.Ytlckpgahijlmoaa
open Go.RowKit Go.Shelf Go.Maps

/-- the row of a tetrahedron in a block of its own: the numbers behind its faces -/
def RT (W : World) (A : Nat) (G : Gl) (t : Nat) : Prop := ∀ f, f < 4 → W.cell? ⟨A, f * 5, none⟩ = some (.int .i64 (G.tet (4 * t + f)))
theorem RT.kept {W W' : World} {A t : Nat} {G : Gl} {row : Option Nat} (h : RT W A G t) (hg : W.grownBy W' row) (hr : some A ≠ row) : RT W' A G t := fun f hf => hg.cell (h f hf) hr
theorem rowA_tet (G : Gl) (t f : Nat) (hf : f < 4) : (rowA G t)[f * 5]? = some (.int .i64 (G.tet (4 * t + f))) := by
  rcases (show f = 0 ∨ f = 1 ∨ f = 2 ∨ f = 3 by omega) with rfl | rfl | rfl | rfl <;> simp [rowA]
set_option maxRecDepth 100000 in
set_option maxHeartbeats 2000000 in
theorem Image_walk (G : Gl) (v : Value) (s0 : Int) (iv : Value) (ni : Nat) (li : Nat → Nat) (fi : Nat → Nat → Int) (w : World) (hG : GlAt w.heap.size w v G) (hm : G.n ≤ 9223372036854775807) (hiv : LLs w.heap.size w iv ni li fi) (hli : ∀ k, k < ni → li k < 4611686018427387904) (hni : ni < 4611686018427387904) :
    Calls Try.prog 34 #[.agg #[v], .int .i64 s0, iv] w fun e w' => Below w.heap.size w w' ∧ ∃ x, e = .returned x := by
  have HG := Lib.hid (And.intro hG (And.intro hiv hli))
  obtain ⟨a, cap, rfl⟩ : ∃ a cap, v = .slice a G.n cap := by obtain ⟨a, _, _, cap, e, _⟩ := hG; exact ⟨a, cap, e⟩
  obtain ⟨ia, ic, rfl⟩ : ∃ a cap, iv = .slice a ni cap := by obtain ⟨a, _, _, cap, e, _⟩ := hiv; exact ⟨a, cap, e⟩
  clear hG hiv hli
  generalize hN : w.heap.size = N at *
  go_enter Try.func34, Try.ntmps34
  go_wp2_with fail
  refine wp_world_named fun W0 hW => ?_
  have h0 : Below N w W0 ∧ W0.cell? ⟨N, 0, none⟩ = some (.slice a G.n cap) ∧ (∃ x, W0.cell? ⟨N + 1, 0, none⟩ = some x) ∧ (∃ x, W0.cell? ⟨N + 1, 1, none⟩ = some x) ∧ W0.frozen? ⟨N + 1, 0, none⟩ = false ∧ W0.frozen? ⟨N + 1, 1, none⟩ = false ∧ W0.heap.size = N + 2 := by
    rw [hW]; subst hN; exact ⟨by (repeat' (first | assumption | exact Below.refl _ _ | refine below_then ?_ (by assumption) | refine below_al ?_ _ | refine below_dr ?_ | refine below_sc ?_ (by simp <;> omega) _)), by simp [go_sem], ⟨_, by simp [go_sem]; rfl⟩, ⟨_, by simp [go_sem]; rfl⟩, by simp [go_sem], by simp [go_sem], by simp⟩
  clear hW
  obtain ⟨hb, c0, ⟨r0, c10⟩, ⟨r1, c11⟩, f10, f11, hz0⟩ := h0
  have HNN := Lib.hid hN
  have h41 := enter_one G (.slice a G.n cap) W0 ((HG.out.1.below hb).mono (by omega)) hm
  refine h41.mono ?_
  clear h41
  rintro e W1 ⟨hb1, pt, c, rfl, hcase⟩
  have hbw := hb.trans (hb1.mono (by omega))
  have hsz1 := hb1.size
  have HT0 := Lib.hid (And.intro c0 (And.intro c10 (And.intro c11 (And.intro f10 f11))))
  -- the boxes, at any later world
  have box : ∀ W', Below W0.heap.size W0 W' → W'.cell? ⟨N, 0, none⟩ = some (.slice a G.n cap) ∧ W'.cell? ⟨N + 1, 0, none⟩ = some r0 ∧ W'.cell? ⟨N + 1, 1, none⟩ = some r1 ∧ W'.frozen? ⟨N + 1, 0, none⟩ = false ∧ W'.frozen? ⟨N + 1, 1, none⟩ = false := fun W' hb' =>
    ⟨(hb'.cell (p := ⟨N, 0, none⟩) (lt_of_cell c0)).trans c0, (hb'.cell (p := ⟨N + 1, 0, none⟩) (lt_of_cell c10)).trans c10, (hb'.cell (p := ⟨N + 1, 1, none⟩) (lt_of_cell c11)).trans c11, (hb'.frozen (p := ⟨N + 1, 0, none⟩) (lt_of_cell c10)).trans f10, (hb'.frozen (p := ⟨N + 1, 1, none⟩) (lt_of_cell c11)).trans f11⟩
  have BX := Lib.hid box
  have HB0 := Lib.hid hb
  have hNW : N + 2 ≤ W1.heap.size := by omega
  have HB1 := Lib.hid hb1
  have HE := Lib.hid hbw
  obtain ⟨k0, k10, k11, z10, z11⟩ := box W1 hb1
  clear hN hb hb1 hbw c0 c10 c11 f10 f11 hsz1 box HT0
  rcases hcase with hc | ⟨rfl, hok, X, mb, vv, ev, tv, lv, dB, rB, rfl, hSP⟩
  · have q1 : (c != 0) = true := by simpa using hc
    clear hc hz0
    go_wp2
    exact bodyPost_ret (v := .tuple #[.agg #[.int .i64 0, .slice none 0 0], .int .i64 c]) (by simp [results, Try.results34, go_sem, *]) rfl ⟨((HE.out.setCell (by show N ≤ N + 1; omega) _).setCell (by show N ≤ N + 1; omega) _), _, rfl⟩
  · have hn : G.n ≤ 1000 := by simp only [checkB, Bool.and_eq_true, decide_eq_true_eq] at hok; exact hok.1
    have hF : nF G ≤ 4000 := by have := cnt_le (clsAll G).r4 (4 * G.n); unfold nF; omega
    have h67 := Parts_walk G (.slice a G.n cap) W1 ((HG.out.1.below HE.out).mono (by omega)) hm
    have HS := Lib.hid (And.intro hok hSP)
    have H67 := Lib.hid h67
    clear hok hSP h67 k10 k11 z10 z11
    go_wp2_with fail
    refine H67.out.mono ?_
    rintro e W2 ⟨rv, pc2, m, hh, rfl, hSI, hm4, hb2⟩
    have h2 := hb2.size
    have HB2 := Lib.hid (HB1.out.trans (hb2.mono (by omega)))
    have HE2 := Lib.hid (HE.out.trans (hb2.mono (by omega)))
    have HS2 := Lib.hid (And.intro HS.out.1 (HS.out.2.below hb2))
    have HSI := Lib.hid hSI
    obtain ⟨ra, rb, ro, rc, rfl, -, -⟩ := hSI
    clear hb2 k0 H67 HS
    go_wp2
    go_loopw [44, 12] (fun i o wr => ∃ (k : Nat) (b : Bool), k ≤ m ∧ i = .int .i64 k ∧ o = .bool b ∧ wr = W2) (fun i _ _ => m - (intOf i).toNat)
    case atStart => exact ⟨0, _, by omega, rfl, rfl, rfl⟩
    case round =>
      obtain ⟨k, b, hk, rfl, rfl, rfl⟩ := hrel
      rcases Nat.lt_or_ge k m with hkm | hkm
      · obtain ⟨ra', rb', ro', rc', hre, hr1, hr2⟩ := HSI.out
        obtain ⟨rfl, -, rfl⟩ : ra = ra' ∧ m = m ∧ rc = rc' := by simpa using hre
        obtain ⟨rfl, -⟩ := hr1 (by omega)
        have ck := hr2 k hkm
        generalize hh k = z at *
        clear hr1 hr2 hre
        cases b with
        | false =>
          go_wp2
          exact ⟨⟨k + 1, _, by omega, by simp, rfl, by simp⟩, by simp [intOf]; omega⟩
        | true =>
          go_wp2
          exact ⟨⟨k + 1, _, by omega, by simp, rfl, by simp⟩, by simp [intOf]; omega⟩
      · obtain rfl : k = m := by omega
        obtain ⟨k0, k10, k11, z10, z11⟩ := BX.out wr HB2.out
        cases b with
        | false =>
          go_wp2
          exact bodyPost_ret (v := .tuple #[.agg #[.int .i64 0, .slice none 0 0], .int .i64 1]) (by simp [results, Try.results34, go_sem, *]) rfl ⟨((HE2.out.setCell (by show N ≤ N + 1; omega) _).setCell (by show N ≤ N + 1; omega) _), _, rfl⟩
        | true =>
          rcases Int.lt_or_le s0 1 with hs1 | hs1
          · have q1 : decide (s0 < 1) = true := by simpa using hs1
            go_wp2
            exact bodyPost_ret (v := .tuple #[.agg #[.int .i64 0, .slice none 0 0], .int .i64 1]) (by simp [results, Try.results34, go_sem, *]) rfl ⟨((HE2.out.setCell (by show N ≤ N + 1; omega) _).setCell (by show N ≤ N + 1; omega) _), _, rfl⟩
          · have q1 : decide (s0 < 1) = false := by simpa using hs1
            rcases Int.lt_or_le 24 s0 with hs2 | hs2
            · have q2 : decide (24 < s0) = true := by simpa using hs2
              go_wp2
              exact bodyPost_ret (v := .tuple #[.agg #[.int .i64 0, .slice none 0 0], .int .i64 1]) (by simp [results, Try.results34, go_sem, *]) rfl ⟨((HE2.out.setCell (by show N ≤ N + 1; omega) _).setCell (by show N ≤ N + 1; omega) _), _, rfl⟩
            · have q2 : decide (24 < s0) = false := by simpa using hs2
              obtain ⟨s, rfl⟩ : ∃ s : Nat, s0 = s := ⟨s0.toNat, by omega⟩
              have h70 := tree_walk G HS2.out.1 (.slice a G.n cap) wr ((HG.out.1.below HE2.out).mono (by omega))
              have H70 := Lib.hid h70
              clear k10 k11 z10 z11 h70
              go_wp2_with fail
              refine H70.out.mono ?_
              rintro e W3 ⟨bT, nT, DT, rfl, hT, hb3⟩
              have h3 := hb3.size
              have HB3 := Lib.hid (HB2.out.trans (hb3.mono (by omega)))
              have HE3 := Lib.hid (HE2.out.trans (hb3.mono (by omega)))
              have hSP3 := HS2.out.2.below hb3
              have HS3 := Lib.hid (And.intro HS2.out.1 hSP3)
              have HT := Lib.hid hT
              have x8a := cell_al hSP3.c8
              obtain ⟨F, hFe⟩ : ∃ F, F = nF G := ⟨_, rfl⟩
              have hFe2 : cnt (clsAll G).r4 (4 * G.n) = F := hFe.symm
              rw [hFe2] at x8a
              rw [← hFe] at hF
              have HF := Lib.hid hFe
              clear hFe hFe2 hSP3 hb3 HE2 HB2 HS2 H70 k0 hT
              go_wp2
              obtain ⟨D, hD⟩ : ∃ D, D = W3.heap.size := ⟨_, rfl⟩
              rw [← hD]
              refine wp_named fun W6 hW6 => ?_
              have h6 : CO W3 W6 D 0 s (.slice none 0 0) [] := by
                rw [hW6]
                exact ⟨World.ownsRow_nil _ _ _ _, fun j x hx => by simp at hx, by rw [hD]; simp [go_sem], by rw [hD]; simp [go_sem], World.frozen?_alloc_at _ _ _ _ hD, (Below.refl _ _).alloc (by omega) _⟩
              have HD := Lib.hid hD
              have H6 := Lib.hid h6
              clear h6 hD hW6 x8a
              go_loopw [73] (fun i wr => ∃ (k : Nat) (uv : Value) (xs : List Value), k ≤ F ∧ i = .int .i64 k ∧ CO W3 wr D k s uv xs) (fun i _ => F - (intOf i).toNat)
              case atStart => exact ⟨0, _, _, by omega, rfl, H6.out⟩
              case round =>
                clear H6
                obtain ⟨k, uv, xs, hk, rfl, hZ⟩ := hrel
                have HK := Lib.hid hZ
                obtain ⟨ua, uc, rfl⟩ := ownsRow_form hZ.own
                rcases Nat.lt_or_ge k F with hkF | hkF
                · have d1 : wr.drew.cell? ⟨D, 1, none⟩ = some (.slice ua k uc) := hZ.d1
                  have hDl := lt_of_cell hZ.d0
                  simp only at hDl
                  obtain ⟨i3, hi3, hz30, hz31, hz32⟩ := info_parts info35
                  have H42 := Lib.hid (identity_walk s (by omega) wr.drew)
                  clear hZ
                  go_wp2
                  refine wp_region_noPanic ?_
                  go_region_law (first
                    | (go_simp; go_at_call 42; (with_reducible refine H42.out.mono ?_); rintro e w6 ⟨rfl, hrow, hb6⟩; have hk6 := (HK.out.kept (grownBy_drew wr none)).kept (below_grown hb6 (Nat.le_refl _) none); have c36 := hk6.d1; have c36a := cell_al c36; have hs6 := hb6.size; have H6 := Lib.hid (And.intro hk6 (And.intro hrow hb6)); clear hk6 hrow hb6)
                    | (refine step_append_lies _ rfl (.tmp 76) (.tmp 79) 26 rfl (D + 1) 35 i3 _ 1 24 und26 hi3 hz30 hz31 hz32 rfl (by omega) (.slice ua k uc) k xs rfl (H6.out.1.own.alloc _) ⟨w6.heap.size, 0, none⟩ 1 1 [.slice (some ⟨wr.heap.size, 0, none⟩) s s] rfl rfl (World.news_of_block (cs := #[.slice (some ⟨wr.heap.size, 0, none⟩) s s]) (MapKept.heap_alloc w6 _).1) (by simp [Value.oneCell']) (by omega) (by unfold maxLen; omega) (by omega) (by have := lt_of_cell c36; simp at this ⊢; omega) (w6.heap.size + 1) (by simp) ?_; intro g cp w8 h1 h2 h3 h4; have c1 := h2.cell (c36a _) H6.out.1.ne; have f1 := (h2.frozen_far ⟨D, 1, none⟩ (lt_of_cell (c36a _)) H6.out.1.ne).trans (H6.out.1.kept (World.grownBy_alloc _ _ none)).f1; have HA := Lib.hid (And.intro h1 (And.intro h2 h3)); clear h1 h2 h3 h4))
                  all_goals refine NoPanic.normal ?_
                  all_goals go_wp2_with fail
                  all_goals exact ⟨⟨k + 1, _, _, by omega, by simp, CO.push HK.out (grownBy_trans (grownBy_drew wr none) (grownBy_trans (below_grown H6.out.2.2 (Nat.le_refl _) none) (World.grownBy_alloc _ _ none))) (fun ob hob => ROW.of_row (rowIs_kept H6.out.2.1 (World.grownBy_alloc _ _ none) (by simp)) (by omega) hDl (fun e => by rcases hob _ e with q | q <;> simp at q hs6 <;> omega)) HA.out.1 HA.out.2.1 (HA.out.2.2.imp id (fun e => by simpa using e))⟩, by simp [intOf]; omega⟩
                · obtain rfl : k = F := by omega
                  have HF2 := Lib.hid (And.intro hk hkF)
                  clear hk hkF
                  have hb3 : Below W3.heap.size W3 wr := by rw [← HD.out]; exact hZ.bel
                  have y0 := (BX.out _ (HB3.out.trans (hb3.mono (by omega)))).1
                  clear hZ hb3
                  go_wp2
                  clear y0
                  go_loopw [17, 86] (fun nv i wr => ∃ (t n : Nat) (xs : List Value), t ≤ G.n ∧ n ≤ ni ∧ i = .int .i64 t ∧ nv = .int .i64 n ∧ CO W3 wr D k s (.slice ua k uc) xs) (fun _ i _ => G.n - (intOf i).toNat)
                  case atStart => exact ⟨0, 0, xs, by omega, by omega, rfl, rfl, HK.out⟩
                  case round =>
                    clear HK
                    obtain ⟨t, n, xs, ht, hnn, rfl, rfl, hZ⟩ := hrel
                    have HK := Lib.hid hZ
                    clear hZ
                    rcases Nat.lt_or_ge t G.n with htn | htn
                    · obtain ⟨_, gb, go, _, hge, hga, hgc⟩ := HG.out.1
                      simp only [Value.slice.injEq, true_and] at hge
                      obtain ⟨hge1, hge2⟩ := hge
                      subst hge1 hge2
                      obtain ⟨rfl, hgN⟩ := hga (by omega)
                      have hND : N ≤ W3.heap.size := by omega
                      have hbN : Below N w wr := HE3.out.trans ((HD.out ▸ HK.out.bel : Below W3.heap.size W3 wr).mono hND)
                      have hrow := rowCells (W := wr) (b := gb) (off := go) (fun k hk => ⟨(hbN.cell (p := ⟨gb, _, none⟩) hgN).trans (hgc k hk).1, fun i hi => (hbN.cell (p := ⟨gb, _, none⟩) hgN).trans ((hgc k hk).2 i hi)⟩) t htn
                      have hrg := hrow.range
                      have t0 : 0 ≤ (t : Int) := by omega
                      have tn : (t : Int) < (G.n : Int) := by omega
                      clear hga hgc hbN hrow
                      go_wp2_with (first | (refine wpList_load_row' rfl 88 (.tmp 89) rfl gb (go + t * 20) rfl (rowA G t) _ hrg Try.underlying88 rfl (by kernel_rfl) ?_) | (refine wpList_store_new (w := wr) rfl 88 (.tmp 19) (.tmp 90) rfl _ (rowA G t) rfl rfl (by kernel_rfl) rfl (rowA_one G t) ?_))
                      clear hrg
                      refine wp_named fun W4 hW4 => ?_
                      obtain ⟨A, hA⟩ : ∃ A, A = wr.heap.size := ⟨_, rfl⟩
                      have hgA : ∀ g, (Value.slice ua k uc).ownBlock = some g → g < A := fun g hg => by rw [hA]; exact (HK.out.own.lt g hg).2
                      have h4 : CO W3 W4 D k s (.slice ua k uc) xs ∧ RT W4 A G t := by
                        rw [hW4]
                        refine ⟨HK.out.kept (World.grownBy_alloc _ _ none), fun f hf => ?_⟩
                        rw [hA, ← rowA_tet G t f hf]
                        exact World.cell?_alloc_at _ _ _ _ rfl
                      rw [← hA]
                      have H4 := Lib.hid h4
                      clear h4 hW4 hA HK
                      go_loopw [17, 91] (fun nv i wr => ∃ (f n : Nat) (xs : List Value), f ≤ 4 ∧ n ≤ ni ∧ i = .int .i64 f ∧ nv = .int .i64 n ∧ CO W3 wr D k s (.slice ua k uc) xs ∧ RT wr A G t) (fun _ i _ => 4 - (intOf i).toNat)
                      case atStart => exact ⟨0, n, xs, by omega, hnn, rfl, rfl, H4.out⟩
                      case round =>
                        clear H4 hnn
                        obtain ⟨f, n, xs, hf, hnn, rfl, rfl, hZ, hRT⟩ := hrel
                        have HK := Lib.hid (And.intro hZ hRT)
                        rcases Nat.lt_or_ge f 4 with hf4 | hf4
                        · have hcd : Below W3.heap.size W3 wr := by rw [← HD.out]; exact hZ.bel
                          have hSPr := HS3.out.2.below hcd
                          have x7 := hSPr.c7
                          obtain ⟨nn, hmap⟩ := hSPr.map
                          have okt : okp (t, f) := ⟨by show t < 9223372036854775808; omega, by show f < 9223372036854775808; omega⟩
                          have hlk := hmap.look codes83 und78 (zero3 _) true (t, f) okt
                          simp only [if_true] at hlk
                          have hTr := HT.out.kept (below_grown hcd (Nat.le_refl _) none) (by simp)
                          have hlT := hTr.look codes83 und127 (zero4 _) false (t, f) okt
                          have rt := hRT f hf4
                          obtain ⟨T, hTe⟩ : ∃ T, T = G.tet (4 * t + f) := ⟨_, rfl⟩
                          rw [← hTe] at rt
                          obtain ⟨bT1, hbT1⟩ : ∃ b, b = (DT (t, f)).elim (Value.bool false) Value.bool := ⟨_, rfl⟩
                          have hbT2 : ∃ b : Bool, bT1 = .bool b := by rw [hbT1]; cases DT (t, f) <;> simp
                          obtain ⟨bt, rfl⟩ := hbT2
                          simp only [Bool.false_eq_true, if_false] at hlT
                          rw [← hbT1] at hlT
                          unfold kp at hlk hlT
                          simp only at hlk hlT
                          have f0 : 0 ≤ (f : Int) := by omega
                          have f4 : (f : Int) < 4 := by omega
                          have sz : A < wr.heap.size := lt_of_cell rt
                          clear hZ hRT hcd hSPr hmap hTr hTe hbT1
                          cases hD1 : fD G (4 * G.n) (t, f) with
                          | none =>
                            rw [hD1] at hlk
                            simp only [Option.elim, Option.isSome] at hlk
                            go_wp2
                            exact ⟨⟨f + 1, n, xs, by omega, hnn, by simp, rfl, HK.out⟩, by simp [intOf]; omega⟩
                          | some c =>
                            rw [hD1] at hlk
                            simp only [Option.elim, Option.isSome] at hlk
                            unfold vi at hlk
                            obtain ⟨j, hj, hje, hc⟩ := fD_some hD1
                            have hck : c < k := by rw [hc, HF.out]; exact fN_lt HS3.out.1 hj
                            clear hD1 hj hje hc
                            rcases Int.lt_or_le T 0 with hT0 | hT0
                            · have q1 : decide (T < 0) = true := by simpa using hT0
                              go_wp2
                              exact ⟨⟨f + 1, n, xs, by omega, hnn, by simp, rfl, HK.out⟩, by simp [intOf]; omega⟩
                            · have q1 : decide (T < 0) = false := by simpa using hT0
                              cases bt with
                              | true =>
                                go_wp2
                                exact ⟨⟨f + 1, n, xs, by omega, hnn, by simp, rfl, HK.out⟩, by simp [intOf]; omega⟩
                              | false =>
                                have hiv := HG.out.2.1
                                rcases Nat.lt_or_ge n ni with hnl | hnl
                                · have q3 : decide ((ni : Int) ≤ (n : Int)) = false := by simp; omega
                                  obtain ⟨_, ib, io, _, hie, hi1, hi2⟩ := hiv
                                  obtain ⟨rfl, -, rfl⟩ : ia = _ ∧ ni = ni ∧ ic = _ := by simpa using hie
                                  obtain ⟨rfl, hiN⟩ := hi1 (by omega)
                                  obtain ⟨rv, hrv, hSv⟩ := hi2 n hnl
                                  have hND : N ≤ W3.heap.size := by omega
                                  have hbN : Below N w wr := HE3.out.trans ((HD.out ▸ HK.out.1.bel : Below W3.heap.size W3 wr).mono hND)
                                  have iv0 := (hbN.cell (p := ⟨ib, io + n, none⟩) hiN).trans hrv
                                  have hwN : N ≤ wr.heap.size := by have := hbN.size; have := HNN.out; omega
                                  have h71 := isPerm_walk (li n) (fi n) s (HG.out.2.2 n hnl) (by omega) N wr hwN rv (hSv.below hbN)
                                  have H71 := Lib.hid (And.intro h71 (And.intro hSv hbN))
                                  have n0 : 0 ≤ (n : Int) := by omega
                                  have nni : (n : Int) < (ni : Int) := by omega
                                  clear hie hi1 hi2 hrv hSv hbN h71
                                  cases hp : permB (li n) (fi n) s with
                                  | false =>
                                    go_wp2_with ((go_at_call 71; (with_reducible refine H71.out.1.mono ?_); rintro e w5 ⟨rfl, hb5⟩; rw [hp]; obtain ⟨k0, k10, k11, z10, z11⟩ := BX.out w5 (HB3.out.trans (((HD.out ▸ HK.out.1.bel : Below W3.heap.size W3 _).trans (hb5.mono (HD.out ▸ HK.out.1.bel : Below W3.heap.size W3 _).size)).mono (by omega))); have HB5 := Lib.hid (H71.out.2.2.trans (hb5.mono hwN)); clear hb5))
                                    exact bodyPost_ret (v := .tuple #[.agg #[.int .i64 0, .slice none 0 0], .int .i64 1]) (by simp [results, Try.results34, go_sem, *]) rfl ⟨((HB5.out.setCell (by show N ≤ N + 1; omega) _).setCell (by show N ≤ N + 1; omega) _), _, rfl⟩
                                  | true =>
                                    have hls := permB_len hp
                                    have HP := Lib.hid (And.intro hp hls)
                                    clear hp hls
                                    go_wp2_with ((go_at_call 71; (with_reducible refine H71.out.1.mono ?_); rintro e w5 ⟨rfl, hb5⟩; rw [HP.out.1]; have hk5 := HK.out.1.kept (below_grown hb5 (Nat.le_refl _) none); have hr5 := HK.out.2.kept (below_grown hb5 (Nat.le_refl _) none) (by simp); have iv5 := (hb5.cell (p := ⟨ib, io + n, none⟩) (by have := lt_of_cell iv0; exact this)).trans iv0; have HB5 := Lib.hid (And.intro hk5 (And.intro hr5 hb5)); clear hk5 hr5 hb5))
                                    obtain ⟨g, gc, xo, hue, -⟩ := HB5.out.1.at hck
                                    obtain ⟨rfl, -, rfl⟩ : ua = some ⟨g, 0, none⟩ ∧ k = k ∧ uc = gc := by simpa using hue
                                    have hSs := H71.out.2.1
                                    rw [HP.out.2] at hSs
                                    obtain ⟨ia2, ib2, io2, ic2, rfl, hs1', hs2'⟩ := hSs
                                    obtain ⟨rfl, hi2N⟩ := hs1' (by omega)
                                    have hN5 : Below N w w5 := H71.out.2.2.trans (HB5.out.2.2.mono hwN)
                                    have news : ∀ (o : Obj) (j : Nat) (u : Value), (nums (fi n) s)[j]? = some u → (w5.alloc o).cell? ((⟨ib2, io2, none⟩ : Addr).add j) = some u := fun o j u hu => by
                                      have hj : j < s := by have := (List.getElem?_eq_some_iff.1 hu).1; simpa [nums] using this
                                      simp only [nums, List.getElem?_map, List.getElem?_range hj, Option.map_some, Option.some.injEq] at hu
                                      subst hu
                                      rw [Addr.add_mid]
                                      exact cell_al ((hN5.cell (p := ⟨ib2, io2 + j, none⟩) hi2N).trans (hs2' j hj)) o
                                    have one : ∀ u ∈ nums (fi n) s, u.oneCell' = true := fun u hu => by
                                      simp only [nums, List.mem_map] at hu
                                      obtain ⟨i, _, rfl⟩ := hu
                                      rfl
                                    have HNW := Lib.hid (And.intro news one)
                                    have d1 := HB5.out.1.d1
                                    have d1a := cell_al d1
                                    have iv5a := cell_al iv5
                                    have hs5 := HB5.out.2.2.size
                                    obtain ⟨j0, hj0, hy0, hy1, hy2⟩ := info_parts info3
                                    have own0 := World.ownsRow_lit (base := w5.heap.size) (e := 3) (size := 1) w5 #[] 0 (Nat.le_refl _) (by decide) rfl
                                    have HO := Lib.hid own0
                                    have fin : ∀ (g8 cp8 : Nat) (w8 : World), w8.ownsRow w5.heap.size 3 1 (.slice (some ⟨g8, 0, none⟩) (0 + s) cp8) (0 + s) ([] ++ nums (fi n) s) → (w5.alloc (.cells #[] 3)).drew.grownBy w8 (some w5.heap.size) →
                                        w5.grownBy w8 none ∧ ROW w8 D (some g) (.slice (some ⟨g8, 0, none⟩) s cp8) ∧ (∃ x, w8.cell? ⟨g, c, none⟩ = some x) ∧ w8.frozen? ⟨g, c, none⟩ = false ∧ w8.cell? ⟨D, 1, none⟩ = some (.slice (some ⟨g, 0, none⟩) k uc) := fun g8 cp8 w8 r1 r2 => by
                                      have hbe : Below w5.heap.size w5 w8 := (below_dr ((Below.refl w5.heap.size w5).alloc (Nat.le_refl _) (.cells #[] 3))).grown r2 (by simp) (fun r e => by cases e; omega)
                                      have hgr := below_grown hbe (Nat.le_refl _) none
                                      obtain ⟨g', gc', x', e1, e2, e3, e4, e5⟩ := (HB5.out.1.kept hgr).at hck
                                      obtain ⟨rfl, -⟩ : g = g' ∧ uc = gc' := by simpa using e1
                                      have hgl := (HB5.out.1.own.lt g rfl).2
                                      have hDg := (HB5.out.1.own.lt g rfl).1
                                      obtain ⟨l1, l2⟩ := r1.lt g8 rfl
                                      rw [Nat.zero_add, List.nil_append] at r1
                                      refine ⟨hgr, ⟨_, g8, cp8, s, fi n, rfl, by omega, fun _ => ⟨rfl, by omega, l2, by simp; omega⟩, fun i hi => ?_⟩, ⟨_, e2⟩, e3, (HB5.out.1.kept hgr).d1⟩
                                      have := r1.cells (g := g8) rfl i (.int .i64 (fi n i)) (by simp [nums, hi])
                                      rwa [Addr.add_mid, Nat.zero_add] at this
                                    have HFin := Lib.hid fin
                                    clear fin
                                    clear news one own0 hN5 hs1' hs2' hue
                                    refine wp_region_noPanic ?_
                                    go_region_law (refine step_append_lies _ rfl (.tmp 138) (.tmp 142) 35 rfl w5.heap.size 3 j0 _ 1 8 und35 hj0 hy0 hy1 hy2 rfl (by omega) (.slice (some ⟨w5.heap.size, 0, none⟩) 0 0) 0 [] rfl HO.out ⟨ib2, io2, none⟩ s ic2 (nums (fi n) s) rfl (by simp [nums]) (HNW.out.1 _) HNW.out.2 (by omega) (by unfold maxLen; omega) (by omega) (by simp) (w5.heap.size + 1) (by simp) ?_; intro g8 cp8 w8 h1 h2 h3 h4; obtain ⟨r1, r2, ⟨r3, r4⟩, r5, r6⟩ := HFin.out g8 cp8 w8 h1 (by first | exact h2 | exact grownBy_trans (grownBy_drew _ _) h2); have HA := Lib.hid (And.intro r1 r2); clear h1 h2 h3 h4 r1 r2)
                                    all_goals refine NoPanic.normal ?_
                                    all_goals go_wp2_with fail
                                    all_goals exact ⟨⟨f + 1, n + 1, _, by omega, by omega, by simp, by simp, CO.put HB5.out.1 HA.out.1 HA.out.2, (HB5.out.2.1.kept HA.out.1 (by simp)).kept (grownBy_setCell _ g c _) (by have := hgA g rfl; simp; omega)⟩, by simp [intOf]; omega⟩
                                · have q3 : decide ((ni : Int) ≤ (n : Int)) = true := by simp; omega
                                  obtain ⟨k0, k10, k11, z10, z11⟩ := BX.out wr (HB3.out.trans ((HD.out ▸ HK.out.1.bel : Below W3.heap.size W3 wr).mono (by omega)))
                                  have HB5 := Lib.hid (HE3.out.trans ((HD.out ▸ HK.out.1.bel : Below W3.heap.size W3 wr).mono (by omega)))
                                  clear hiv
                                  go_wp2
                                  exact bodyPost_ret (v := .tuple #[.agg #[.int .i64 0, .slice none 0 0], .int .i64 1]) (by simp [results, Try.results34, go_sem, *]) rfl ⟨((HB5.out.setCell (by show N ≤ N + 1; omega) _).setCell (by show N ≤ N + 1; omega) _), _, rfl⟩
                        · obtain rfl : f = 4 := by omega
                          clear hZ hRT
                          go_wp2
                          exact ⟨⟨t + 1, n, xs, by omega, hnn, by simp, rfl, HK.out.1⟩, by simp [intOf]; omega⟩
                    · obtain rfl : t = G.n := by omega
                      have hND : N ≤ W3.heap.size := by omega
                      have hbN : Below N w wr := HE3.out.trans ((HD.out ▸ HK.out.bel : Below W3.heap.size W3 wr).mono hND)
                      have hbW : Below W0.heap.size W0 wr := HB3.out.trans ((HD.out ▸ HK.out.bel : Below W3.heap.size W3 wr).mono (by omega))
                      have HBN := Lib.hid (And.intro hbN hbW)
                      obtain ⟨k0, k10, k11, z10, z11⟩ := BX.out wr hbW
                      clear hbN hbW
                      by_cases hni2 : n = ni
                      · have q3 : ((n : Int) != (ni : Int)) = false := by simp; omega
                        have hPle : s * G.n ≤ 24000 := Nat.le_trans (Nat.mul_le_mul (show s ≤ 24 by omega) hn) (by omega)
                        obtain ⟨P, hP⟩ : ∃ P : Nat, P = s * G.n := ⟨_, rfl⟩
                        rw [← hP] at hPle
                        have q4 : IntKind.i64.wrap ((s : Int) * (G.n : Int)) = (P : Int) := by rw [hP, IntWalk.i64_in _ (by rw [← Int.natCast_mul, ← hP]; omega)]; simp
                        clear hP
                        rcases Nat.lt_or_ge 1000 P with hP1 | hP1
                        · have q5 : decide ((1000 : Int) < (P : Int)) = true := by simp; omega
                          go_wp2
                          exact bodyPost_ret (v := .tuple #[.agg #[.int .i64 0, .slice none 0 0], .int .i64 2]) (by simp [results, Try.results34, go_sem, *]) rfl ⟨((HBN.out.1.setCell (by show N ≤ N + 1; omega) _).setCell (by show N ≤ N + 1; omega) _), _, rfl⟩
                        · have q5 : decide ((1000 : Int) < (P : Int)) = false := by simp; omega
                          obtain ⟨len, fp, hLL, hlen⟩ := HK.out.LLs
                          have d0 := HK.out.d0
                          have d1 := HK.out.d1
                          have hwN : N ≤ wr.heap.size := by have := HBN.out.1.size; have := HNN.out; omega
                          have h44 := asked_walk G (.slice a G.n cap) s (.slice ua k uc) k len fp wr ((HG.out.1.below HBN.out.1).mono hwN) hm hLL (fun j hj => by have := hlen j hj; omega) (by omega)
                          have H44 := Lib.hid h44
                          clear h44 hLL hlen k10 k11 z10 z11
                          go_wp2_with fail
                          refine H44.out.mono ?_
                          rintro e w9 ⟨hb9, h9⟩
                          obtain ⟨pt, c9, rfl, -⟩ := h9.one
                          have HB9 := Lib.hid (HBN.out.1.trans (hb9.mono hwN))
                          obtain ⟨k0, k10, k11, z10, z11⟩ := BX.out w9 (HBN.out.2.trans (hb9.mono HBN.out.2.size))
                          have e0 := (hb9.cell (p := ⟨D, 0, none⟩) (lt_of_cell d0)).trans d0
                          have e1 := (hb9.cell (p := ⟨D, 1, none⟩) (lt_of_cell d1)).trans d1
                          clear hb9 h9 d0 d1
                          by_cases hc9 : c9 = 0
                          · subst hc9
                            have hne : N + 1 ≠ D := by have := HD.out; omega
                            go_wp2
                            exact bodyPost_ret (v := .tuple #[.agg #[.int .i64 s, .slice ua k uc], .int .i64 0]) (by simp [results, Try.results34, go_sem, *]) rfl ⟨((HB9.out.setCell (by show N ≤ N + 1; omega) _).setCell (by show N ≤ N + 1; omega) _), _, rfl⟩
                          · have q6 : (c9 != 0) = true := by simpa using hc9
                            go_wp2
                            exact bodyPost_ret (v := .tuple #[.agg #[.int .i64 0, .slice none 0 0], .int .i64 c9]) (by simp [results, Try.results34, go_sem, *]) rfl ⟨((HB9.out.setCell (by show N ≤ N + 1; omega) _).setCell (by show N ≤ N + 1; omega) _), _, rfl⟩
                      · have q3 : ((n : Int) != (ni : Int)) = true := by simp; omega
                        go_wp2
                        exact bodyPost_ret (v := .tuple #[.agg #[.int .i64 0, .slice none 0 0], .int .i64 1]) (by simp [results, Try.results34, go_sem, *]) rfl ⟨((HBN.out.1.setCell (by show N ≤ N + 1; omega) _).setCell (by show N ≤ N + 1; omega) _), _, rfl⟩
end Go.Proofs.Ytlckpgahijlmoaa
