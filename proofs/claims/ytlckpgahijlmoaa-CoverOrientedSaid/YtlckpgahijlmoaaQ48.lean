/- cover's Orientation: what it returns. -/
import Derived.Test.YtlckpgahijlmoaaQ43
import Derived.Test.YtlckpgahijlmoaaQ47
namespace Go.Proofs.Ytlckpgahijlmoaa
open Go.RowKit Go.Shelf Go.Maps

/-- enter's error -/
def EnterErr (G : Gl) (c : Int) : Prop := (checkB G = false ∧ c = 7) ∨ (checkB G = true ∧ (∃ i, i < nE G ∧ revK G (6 * G.n) i = true) ∧ c = 8) ∨ (checkB G = true ∧ (∀ i, i < nE G → revK G (6 * G.n) i = false) ∧ c = 0)
/-- enter's answer, in one shape -/
theorem enter_two (G : Gl) (v : Value) (w : World) (hG : GlAt w.heap.size w v G) (hm : G.n ≤ 9223372036854775807) :
    Calls Try.prog 41 #[.agg #[v]] w fun e w' => Below w.heap.size w w' ∧ ∃ pt c, e = .returned (.tuple #[pt, .int .i64 c]) ∧ EnterErr G c ∧ (c ≠ 0 ∨ (c = 0 ∧ checkB G = true ∧ ∃ X mb vv ev tv lv dB rB, pt = .pointer (some ⟨X, 0, none⟩) ∧ SP w' w.heap.size X mb v G (4 * G.n) vv ev tv lv dB rB)) := by
  refine (enter_walk G v w hG hm).mono ?_
  rintro e w' ⟨hb, ⟨h1, rfl⟩ | ⟨h1, h2, rfl⟩ | ⟨h1, h3, X, mb, vv, ev, tv, lv, dB, rB, rfl, h2⟩⟩
  · exact ⟨hb, _, 7, rfl, .inl ⟨h1, rfl⟩, .inl (by omega)⟩
  · exact ⟨hb, _, 8, rfl, .inr (.inl ⟨h1, h2, rfl⟩), .inl (by omega)⟩
  · exact ⟨hb, _, 0, rfl, .inr (.inr ⟨h1, h3, rfl⟩), .inr ⟨rfl, h1, X, mb, vv, ev, tv, lv, dB, rB, rfl, h2⟩⟩
/-- what Orientation answers -/
def OrAns (G : Gl) (e : Ending) (w' : World) : Prop := ∃ c sh pv, e = .returned (.tuple #[.agg #[.int .i64 sh, pv], .int .i64 c]) ∧
  ((c ≠ 0 ∧ EnterErr G c ∧ sh = 0 ∧ pv = .slice none 0 0) ∨ (EnterErr G 0 ∧ 500 < G.n ∧ c = 2 ∧ sh = 0 ∧ pv = .slice none 0 0) ∨ (EnterErr G 0 ∧ G.n ≤ 500 ∧ c = 0 ∧ sh = 2 ∧ LLs w'.heap.size w' pv (nF G) (fun _ => 2) (orF G)))
theorem cnt_surj {r : Nat → Nat} : ∀ {n c : Nat}, c < cnt r n → ∃ k, k < n ∧ r k = k ∧ cnt r k = c
  | 0, c, h => by simp [cnt] at h
  | n + 1, c, h => by
    simp only [cnt] at h
    by_cases e : r n = n
    · rw [if_pos e] at h
      rcases Nat.lt_or_ge c (cnt r n) with q | q
      · obtain ⟨k, h1, h2, h3⟩ := cnt_surj q
        exact ⟨k, by omega, h2, h3⟩
      · exact ⟨n, by omega, e, by omega⟩
    · rw [if_neg e] at h
      obtain ⟨k, h1, h2, h3⟩ := cnt_surj (show c < cnt r n by omega)
      exact ⟨k, by omega, h2, h3⟩
/-- the classes turned so far -/
def TurnI (G : Gl) (left : Nat × Nat → Bool) (F : Nat → Nat → Int) : Prop := ∀ p c, fD G (4 * G.n) p = some c → ∀ i, i < 2 → F c i = if left p then (i : Int) else orF G c i
section
variable {G : Gl} (hok : checkB G = true)
include hok
theorem fD_place {p : Nat × Nat} {c : Nat} (h : fD G (4 * G.n) p = some c) : ∃ j, j < 4 * G.n ∧ p = (j / 4, j % 4) ∧ c = fN G j ∧ isF G j := by
  obtain ⟨j, h1, h2, h3⟩ := fD_some h
  refine ⟨j, h1, h2, h3, ?_⟩
  subst h2
  have := fD_at hok (4 * G.n) (Nat.le_refl _) (j / 4) (j % 4) (by omega)
  rw [show 4 * (j / 4) + j % 4 = j by omega] at this
  by_cases q : isF G j
  · exact q
  · rw [if_neg (fun x => q x.2)] at this; rw [this] at h; cases h
theorem fD_inj {p p' : Nat × Nat} {c : Nat} (h : fD G (4 * G.n) p = some c) (h' : fD G (4 * G.n) p' = some c) : p = p' := by
  obtain ⟨j, a1, a2, a3, a4⟩ := fD_place hok h
  obtain ⟨k, b1, b2, b3, b4⟩ := fD_place hok h'
  rcases fN_eq hok a1 b1 (by rw [← a3, ← b3]) with e | ⟨t, e⟩
  · rw [a2, b2, e]
  · subst e; exact absurd a4 ((isF_tb hok a1 t).1 b4)
theorem fD_surj {c : Nat} (h : c < nF G) : ∃ p, fD G (4 * G.n) p = some c := by
  obtain ⟨k, h1, h2, h3⟩ := cnt_surj h
  refine ⟨(k / 4, k % 4), ?_⟩
  have := fD_at hok (4 * G.n) (Nat.le_refl _) (k / 4) (k % 4) (by omega)
  rw [show 4 * (k / 4) + k % 4 = k by omega, if_pos ⟨h1, (isF_root hok h1).1 h2⟩] at this
  rw [this]; unfold fN; rw [h2, h3]
theorem TurnI.done {left : Nat × Nat → Bool} {F : Nat → Nat → Int} (h : TurnI G left F) (hl : ∀ p, left p = false) : ∀ c, c < nF G → ∀ i, i < 2 → F c i = orF G c i := fun c hc i hi => by
  obtain ⟨p, hp⟩ := fD_surj hok hc
  rw [h p c hp i hi, hl p]; rfl
theorem TurnI.skip {left : Nat × Nat → Bool} {F : Nat → Nat → Int} (h : TurnI G left F) {q f c : Nat} (hD : fD G (4 * G.n) (q, f) = some c) (hn : ¬ (0 ≤ G.tet (4 * q + f) ∧ SignI (G.pm (4 * q + f)) = 1)) : TurnI G (fun x => left x && !decide (x = (q, f))) F := fun p c' hp i hi => by
  rw [h p c' hp i hi]
  by_cases e : p = (q, f)
  · subst e
    rw [hD] at hp; injection hp with hp; subst hp
    have : orF G c i = i := by
      obtain ⟨j, a1, a2, a3, a4⟩ := fD_place hok hD
      obtain ⟨rfl, rfl⟩ : q = j / 4 ∧ f = j % 4 := by simpa using a2
      rw [show 4 * (j / 4) + j % 4 = j by omega, SignI_R] at hn
      unfold orF
      rw [if_neg (by rw [a3, tc_at hok a1 a4]; exact hn)]
    simp [this]
  · simp [e]
theorem TurnI.turn {left : Nat × Nat → Bool} {F : Nat → Nat → Int} (h : TurnI G left F) {q f c : Nat} (hD : fD G (4 * G.n) (q, f) = some c) (hn : 0 ≤ G.tet (4 * q + f) ∧ SignI (G.pm (4 * q + f)) = 1) : TurnI G (fun x => left x && !decide (x = (q, f))) (fun i => if i = c then (fun i => if i = 0 then 1 else 0) else F i) := fun p c' hp i hi => by
  by_cases e : p = (q, f)
  · subst e
    rw [hD] at hp; injection hp with hp; subst hp
    have : orF G c i = 1 - i := by
      obtain ⟨j, a1, a2, a3, a4⟩ := fD_place hok hD
      obtain ⟨rfl, rfl⟩ : q = j / 4 ∧ f = j % 4 := by simpa using a2
      rw [show 4 * (j / 4) + j % 4 = j by omega, SignI_R] at hn
      unfold orF
      rw [if_pos (by rw [a3, tc_at hok a1 a4]; exact hn)]
    simp only [if_true, decide_true, Bool.not_true, Bool.and_false, this]
    rcases (show i = 0 ∨ i = 1 by omega) with rfl | rfl <;> simp
  · have hc : c' ≠ c := fun ec => e (fD_inj hok (by rw [← ec]; exact hp) hD)
    simp only [hc, if_false, e, decide_false, Bool.not_false, Bool.and_true]
    exact h p c' hp i hi
end
set_option maxRecDepth 100000 in
set_option maxHeartbeats 2000000 in
theorem Orientation_two (G : Gl) (v : Value) (w : World) (hG : GlAt w.heap.size w v G) (hm : G.n ≤ 9223372036854775807) :
    Calls Try.prog 10 #[.agg #[v]] w fun e w' => Below w.heap.size w w' ∧ OrAns G e w' := by
  have HG := Lib.hid hG
  obtain ⟨a, cap, rfl⟩ : ∃ a cap, v = .slice a G.n cap := by obtain ⟨a, _, _, cap, e, _⟩ := hG; exact ⟨a, cap, e⟩
  clear hG
  generalize hN : w.heap.size = N at *
  go_enter Try.func10, Try.ntmps10
  go_wp2_with fail
  refine wp_world_named fun W0 hW => ?_
  have h0 : Below N w W0 ∧ W0.cell? ⟨N, 0, none⟩ = some (.slice a G.n cap) ∧ (∃ x, W0.cell? ⟨N + 1, 0, none⟩ = some x) ∧ (∃ x, W0.cell? ⟨N + 1, 1, none⟩ = some x) ∧ W0.frozen? ⟨N + 1, 0, none⟩ = false ∧ W0.frozen? ⟨N + 1, 1, none⟩ = false ∧ W0.heap.size = N + 2 := by
    rw [hW]; subst hN; exact ⟨by (repeat' (first | assumption | exact Below.refl _ _ | refine below_then ?_ (by assumption) | refine below_al ?_ _ | refine below_dr ?_ | refine below_sc ?_ (by simp <;> omega) _)), by simp [go_sem], ⟨_, by simp [go_sem]; rfl⟩, ⟨_, by simp [go_sem]; rfl⟩, by simp [go_sem], by simp [go_sem], by simp⟩
  clear hW
  obtain ⟨hb, c0, ⟨r0, c10⟩, ⟨r1, c11⟩, f10, f11, hz0⟩ := h0
  have HNN := Lib.hid hN
  have h41 := enter_two G (.slice a G.n cap) W0 ((HG.out.below hb).mono (by omega)) hm
  refine h41.mono ?_
  clear h41
  rintro e W1 ⟨hb1, pt, c, rfl, herr, hcase⟩
  have HER := Lib.hid herr; clear herr
  have hbw := hb.trans (hb1.mono (by omega))
  have hsz1 := hb1.size
  have k0 := (hb1.cell (p := ⟨N, 0, none⟩) (lt_of_cell c0)).trans c0
  have k10 := (hb1.cell (p := ⟨N + 1, 0, none⟩) (lt_of_cell c10)).trans c10
  have k11 := (hb1.cell (p := ⟨N + 1, 1, none⟩) (lt_of_cell c11)).trans c11
  have z10 := (hb1.frozen (p := ⟨N + 1, 0, none⟩) (lt_of_cell c10)).trans f10
  have z11 := (hb1.frozen (p := ⟨N + 1, 1, none⟩) (lt_of_cell c11)).trans f11
  have HE := Lib.hid hbw
  have hNW : N + 2 ≤ W1.heap.size := by omega
  clear hN hb hb1 hbw c0 c10 c11 f10 f11 hsz1
  rcases hcase with hc | ⟨rfl, hok, X, mb, vv, ev, tv, lv, dB, rB, rfl, hSP⟩
  · have q1 : (c != 0) = true := by simpa using hc
    have HC0 := Lib.hid hc
    clear hc hz0
    go_wp2
    exact bodyPost_ret (v := .tuple #[.agg #[.int .i64 0, .slice none 0 0], .int .i64 c]) (by simp [results, Try.results10, go_sem, *]) rfl ⟨((HE.out.setCell (by show N ≤ N + 1; omega) _).setCell (by show N ≤ N + 1; omega) _), c, 0, _, rfl, .inl ⟨HC0.out, HER.out, rfl, rfl⟩⟩
  · have hn : G.n ≤ 1000 := by simp only [checkB, Bool.and_eq_true, decide_eq_true_eq] at hok; exact hok.1
    have hF : nF G ≤ 4000 := by have := cnt_le (clsAll G).r4 (4 * G.n); unfold nF; omega
    have HS := Lib.hid (And.intro hok hSP)
    have x8a := cell_al hSP.c8
    obtain ⟨F, hFe⟩ : ∃ F, F = nF G := ⟨_, rfl⟩
    have hFe2 : cnt (clsAll G).r4 (4 * G.n) = F := hFe.symm
    rw [hFe2] at x8a
    rw [← hFe] at hF
    have HF := Lib.hid hFe
    clear hFe hFe2 hok hSP hz0
    rcases Nat.lt_or_ge 500 G.n with h5 | h5
    · have q2 : decide ((500 : Int) < (G.n : Int)) = true := by simp; omega
      go_wp2
      exact bodyPost_ret (v := .tuple #[.agg #[.int .i64 0, .slice none 0 0], .int .i64 2]) (by simp [results, Try.results10, go_sem, *]) rfl ⟨((HE.out.setCell (by show N ≤ N + 1; omega) _).setCell (by show N ≤ N + 1; omega) _), 2, 0, _, rfl, .inr (.inl ⟨HER.out, h5, rfl, rfl, rfl⟩)⟩
    · have q2 : decide ((500 : Int) < (G.n : Int)) = false := by simp; omega
      go_wp2
      obtain ⟨D, hD⟩ : ∃ D, D = W1.heap.size := ⟨_, rfl⟩
      rw [← hD]
      refine wp_named fun W6 hW6 => ?_
      have h6 : COx W1 W6 D 0 2 2 idF (.slice none 0 0) [] := by
        rw [hW6]
        exact ⟨World.ownsRow_nil _ _ _ _, fun j x hx => by simp at hx, by rw [hD]; simp [go_sem], by rw [hD]; simp [go_sem], World.frozen?_alloc_at _ _ _ _ hD, (Below.refl _ _).alloc (by omega) _⟩
      have H5 := Lib.hid (And.intro k0 (And.intro k10 (And.intro k11 (And.intro z10 z11))))
      have HD := Lib.hid hD
      have H6 := Lib.hid h6
      clear h6 hD hW6 x8a k0 k10 k11 z10 z11
      go_loopw [29] (fun i wr => ∃ (k : Nat) (uv : Value) (xs : List Value), k ≤ F ∧ i = .int .i64 k ∧ COx W1 wr D k 2 2 idF uv xs) (fun i _ => F - (intOf i).toNat)
      case atStart => exact ⟨0, _, _, by omega, rfl, H6.out⟩
      case round =>
        clear H6
        obtain ⟨k, uv, xs, hk, rfl, hZ⟩ := hrel
        have HK := Lib.hid hZ
        obtain ⟨ua, uc, rfl⟩ := ownsRow_form hZ.own
        rcases Nat.lt_or_ge k F with hkF | hkF
        · have d1 : wr.drew.cell? ⟨D, 1, none⟩ = some (.slice ua k uc) := hZ.d1
          have hDl := lt_of_cell hZ.d0
          simp only at hDl
          obtain ⟨i3, hi3, hz30, hz31, hz32⟩ := info_parts info35
          have h42 : Calls Try.prog 42 #[.int .i64 2] wr.drew (fun e w' => e = .returned (.slice (some ⟨wr.heap.size, 0, none⟩) 2 2) ∧ IntRow w' wr.heap.size 2 (fun i => (i : Int)) ∧ Below wr.drew.heap.size wr.drew w') := identity_walk 2 (by omega) wr.drew
          have H42 := Lib.hid h42
          clear hZ h42
          go_wp2
          refine wp_region_noPanic ?_
          go_region_law (first
            | (go_simp; go_at_call 42; (with_reducible refine H42.out.mono ?_); rintro e w6 ⟨rfl, hrow, hb6⟩; have hk6 := (HK.out.kept (grownBy_drew wr none)).kept (below_grown hb6 (Nat.le_refl _) none); have c36 := hk6.d1; have c36a := cell_al c36; have hs6 := hb6.size; have H6 := Lib.hid (And.intro hk6 (And.intro hrow hb6)); clear hk6 hrow hb6)
            | (refine step_append_lies _ rfl (.tmp 32) (.tmp 34) 26 rfl (D + 1) 35 i3 _ 1 24 und26 hi3 hz30 hz31 hz32 rfl (by omega) (.slice ua k uc) k xs rfl (H6.out.1.own.alloc _) ⟨w6.heap.size, 0, none⟩ 1 1 [.slice (some ⟨wr.heap.size, 0, none⟩) 2 2] rfl rfl (World.news_of_block (cs := #[.slice (some ⟨wr.heap.size, 0, none⟩) 2 2]) (MapKept.heap_alloc w6 _).1) (by simp [Value.oneCell']) (by omega) (by unfold maxLen; omega) (by omega) (by have := lt_of_cell c36; simp at this ⊢; omega) (w6.heap.size + 1) (by simp) ?_; intro g cp w8 h1 h2 h3 h4; have c1 := h2.cell (c36a _) H6.out.1.ne; have f1 := (h2.frozen_far ⟨D, 1, none⟩ (lt_of_cell (c36a _)) H6.out.1.ne).trans (H6.out.1.kept (World.grownBy_alloc _ _ none)).f1; have HA := Lib.hid (And.intro h1 (And.intro h2 h3)); clear h1 h2 h3 h4))
          all_goals refine NoPanic.normal ?_
          all_goals go_wp2_with fail
          all_goals exact ⟨⟨k + 1, _, _, by omega, by simp, COx.push HK.out (grownBy_trans (grownBy_drew wr none) (grownBy_trans (below_grown H6.out.2.2 (Nat.le_refl _) none) (World.grownBy_alloc _ _ none))) (fun ob hob => ROWx.of_row (rowIs_kept H6.out.2.1 (World.grownBy_alloc _ _ none) (by simp)) hDl (fun e => by rcases hob _ e with q | q <;> simp at q hs6 <;> omega)) HA.out.1 HA.out.2.1 (HA.out.2.2.imp id (fun e => by simpa using e))⟩, by simp [intOf]; omega⟩
        · obtain rfl : k = F := by omega
          have HF2 := Lib.hid (And.intro hk hkF)
          clear hk hkF
          have hcd := hZ.bel
          have hSPr := HS.out.2.below (show Below W1.heap.size W1 wr by rw [← HD.out]; exact hcd)
          have x7 := hSPr.c7
          obtain ⟨nn, hmap⟩ := hSPr.map
          have HM := Lib.hid hmap
          clear hZ hcd hSPr hmap
          go_wp2_with (at_range; refine wpList_range rfl 78 _ rfl und78 HM.out rfl ?_; intro W8 cnt hM hg8 hs8)
          obtain ⟨R, hR⟩ : ∃ R, R = wr.heap.size := ⟨_, rfl⟩
          rw [← hR] at hM ⊢
          have hDR : D < R := by have := lt_of_cell HK.out.d0; simp only at this; omega
          have H8 := Lib.hid (And.intro (HK.out.kept hg8) (And.intro hM hDR))
          clear hM hg8 hs8 hDR hR x7
          go_frame
          go_loopg [] cnt (fun g wr => ∃ left xs F, TurnI G left F ∧ COx W1 wr D k 2 2 F (.slice ua k uc) xs ∧ MapR wr okp kp vi mb R nn (fD G (4 * G.n)) left g)
          case atStart => exact ⟨_, _, idF, fun p c hp i hi => by simp [hp, idF], H8.out.1, H8.out.2.1⟩
          case round =>
            obtain ⟨left, xs, F, hTI, hZ, hM⟩ := hrel
            have HTI := Lib.hid hTI
            clear hTI
            have HK3 := Lib.hid (And.intro hZ hM)
            clear hZ hM
            go_wp2_with (at_next; refine wpList_next (κ := kp) (ν := vi) rfl _ rfl HK3.out.2 (fun a a' _ _ h => kp_inj a a' h) rfl ?_ ?_)
            · intro hl0
              have HFin := Lib.hid (HTI.out.done HS.out.1 (fun p => hl0 p.1 p.2))
              clear hl0
              have hb5 := HK3.out.1.bel
              have lt5 : ∀ {b o : Nat} {x : Value}, W1.cell? ⟨b, o, none⟩ = some x → b < D := fun h => by rw [HD.out]; exact lt_of_cell h
              have y30 := (hb5.cell (p := ⟨N + 1, 0, none⟩) (lt5 H5.out.2.1)).trans H5.out.2.1
              have y31 := (hb5.cell (p := ⟨N + 1, 1, none⟩) (lt5 H5.out.2.2.1)).trans H5.out.2.2.1
              have g30 := (hb5.frozen (p := ⟨N + 1, 0, none⟩) (lt5 H5.out.2.1)).trans H5.out.2.2.2.1
              have g31 := (hb5.frozen (p := ⟨N + 1, 1, none⟩) (lt5 H5.out.2.2.1)).trans H5.out.2.2.2.2
              have d0 := HK3.out.1.d0
              have d1 := HK3.out.1.d1
              have HLL := Lib.hid (HK3.out.1.congr (fun j hj i hi => HFin.out j (by rw [← HF.out]; exact hj) i hi)).LLn
              have HB := Lib.hid (HE.out.trans ((HD.out ▸ hb5 : Below W1.heap.size W1 _).mono (by omega)))
              clear hb5 lt5
              go_wp2
              refine bodyPost_ret (v := .tuple #[.agg #[.int .i64 2, .slice ua k uc], .int .i64 0]) (by simp [results, Try.results10, go_sem, *]) rfl ⟨((HB.out.setCell (by show N ≤ N + 1; omega) _).setCell (by show N ≤ N + 1; omega) _), 0, 2, _, rfl, .inr (.inr ⟨HER.out, h5, rfl, rfl, ?_⟩)⟩
              rw [← HF.out]
              have hD2 := HD.out
              have hl1 := HLL.out.kept (grownBy_setCell _ (N + 1) 0 (.int .i64 2)) (fun r e => by cases e; omega)
              have hl2 := hl1.kept (grownBy_setCell _ (N + 1) 1 (.slice ua k uc)) (fun r e => by cases e; omega)
              exact hl2.LLs.mono (by simp)
            · intro tt ff c W9 cnt1 hok1 hleft hD1 hM1 hlt hg1 hs1 hen
              obtain ⟨j, hj, hje, hc⟩ := fD_some hD1
              obtain ⟨rfl, rfl⟩ : tt = j / 4 ∧ ff = j % 4 := by simpa using hje
              obtain ⟨q, hq⟩ : ∃ q, q = j / 4 := ⟨_, rfl⟩
              obtain ⟨f, hf⟩ : ∃ f, f = j % 4 := ⟨_, rfl⟩
              have hjt : j = 4 * q + f := by omega
              have hqn : q < G.n := by omega
              have hf4 : f < 4 := by omega
              rw [← hq, ← hf] at hM1 hen hD1
              have HDD := Lib.hid hD1
              have hck : c < k := by rw [hc, HF.out]; exact fN_lt HS.out.1 hj
              have hRc : ∀ i y, wr.cell? ⟨R, i, none⟩ ≠ some y := HK3.out.2.noCell
              have hZ9 := HK3.out.1.keptR H8.out.2.2 hRc (HK3.out.2.noOwn HK3.out.1.own) hg1
              have H9 := Lib.hid (And.intro hZ9 (And.intro hM1 hlt))
              have hRl := hM1.ltr
              clear hq hf hok1 hleft hD1 hM1 hlt hg1 hs1 hje hj hc hjt hZ9 hRc
              unfold kp vi at hen
              unfold kp vi
              go_wp2
              obtain ⟨A, hA⟩ : ∃ A, A = W9.heap.size := ⟨_, rfl⟩
              rw [← hA]
              refine wp_named fun Wb hWb => ?_
              have hL : COx W1 Wb D k 2 2 F (.slice ua k uc) xs ∧ MapR Wb okp kp vi mb R nn (fD G (4 * G.n)) (fun x => left x && !decide (x = (q, f))) cnt1 ∧ Wb.cell? ⟨A, 0, none⟩ = some (.int .i64 (q : Int)) ∧ Wb.cell? ⟨A, 1, none⟩ = some (.int .i64 (f : Int)) := by
                have hal := World.grownBy_alloc W9 (.cells #[.int .i64 (q : Int), .int .i64 (f : Int)] 83) none
                rw [← hWb] at hal
                exact ⟨H9.out.1.kept hal, H9.out.2.1.kept hal (by simp) (by simp), by rw [hWb, hA]; simp [go_sem], by rw [hWb, hA]; simp [go_sem]⟩
              have hRA : R ≤ A := by omega
              clear hWb hA hen
              obtain ⟨_, gb, go, _, hge, hga, hgc⟩ := HG.out
              simp only [Value.slice.injEq, true_and] at hge
              obtain ⟨hge1, hge2⟩ := hge
              subst hge1 hge2
              obtain ⟨rfl, hgN⟩ := hga (by omega)
              have hbN : Below N w Wb := HE.out.trans ((HD.out ▸ hL.1.bel : Below W1.heap.size W1 Wb).mono (by omega))
              have lt5 : ∀ {b o : Nat} {x : Value}, W1.cell? ⟨b, o, none⟩ = some x → b < D := fun h => by rw [HD.out]; exact lt_of_cell h
              have y0 : Wb.cell? ⟨N, 0, none⟩ = some (.slice (some ⟨gb, go, none⟩) G.n cap) := (hL.1.bel.cell (p := ⟨N, 0, none⟩) (lt5 H5.out.1)).trans H5.out.1
              obtain ⟨fb0, fb⟩ := hgc (4 * q + f) (by omega)
              rw [show go + 5 * (4 * q + f) = go + q * 20 + f * 5 by omega] at fb0 fb
              have fw : ∀ o x, w.cell? ⟨gb, o, none⟩ = some x → Wb.cell? ⟨gb, o, none⟩ = some x := fun o x hx => (hbN.cell (p := ⟨gb, o, none⟩) hgN).trans hx
              have p0 := fw _ _ fb0
              have p1 := fw _ _ (fb 0 (by omega))
              have p2 := fw _ _ (fb 1 (by omega))
              have p3 := fw _ _ (fb 2 (by omega))
              have p4 := fw _ _ (fb 3 (by omega))
              rw [Nat.add_zero] at p1
              have a0 : Wb.cell? ⟨A, 0, none⟩ = some (.int .i64 (q : Int)) := hL.2.2.1
              have a1 : Wb.cell? ⟨A, 1, none⟩ = some (.int .i64 (f : Int)) := hL.2.2.2
              have y0a := cell_al y0
              have p0a := cell_al p0
              have p1a := cell_al p1
              have p2a := cell_al p2
              have p3a := cell_al p3
              have p4a := cell_al p4
              have a0a := cell_al a0
              have a1a := cell_al a1
              have q0 : 0 ≤ (q : Int) := by omega
              have qn : (q : Int) < (G.n : Int) := by omega
              have f0 : 0 ≤ (f : Int) := by omega
              have f4 : (f : Int) < 4 := by omega
              have HL := Lib.hid (And.intro hL hbN)
              clear hL hbN lt5 fw fb fb0 hga hgc
              go_region_held3 (fun w' => w'.cell? ⟨N, 0, none⟩ = some (.slice (some ⟨gb, go, none⟩) G.n cap) ∧ w'.cell? ⟨A, 0, none⟩ = some (.int .i64 (q : Int)) ∧ w'.cell? ⟨A, 1, none⟩ = some (.int .i64 (f : Int)) ∧
                  w'.cell? ⟨gb, go + q * 20 + f * 5, none⟩ = some (.int .i64 (G.tet (4 * q + f))) ∧ w'.cell? ⟨gb, go + q * 20 + f * 5 + 1, none⟩ = some (.int .i64 (G.pm (4 * q + f) 0)) ∧ w'.cell? ⟨gb, go + q * 20 + f * 5 + 1 + 1, none⟩ = some (.int .i64 (G.pm (4 * q + f) 1)) ∧ w'.cell? ⟨gb, go + q * 20 + f * 5 + 1 + 2, none⟩ = some (.int .i64 (G.pm (4 * q + f) 2)) ∧ w'.cell? ⟨gb, go + q * 20 + f * 5 + 1 + 3, none⟩ = some (.int .i64 (G.pm (4 * q + f) 3)))
                (first | exact ⟨y0, a0, a1, p0, p1, p2, p3, p4⟩ | exact ⟨y0a _, a0a _, a1a _, p0a _, p1a _, p2a _, p3a _, p4a _⟩)
                (fail)
              generalize hWc : World.drew (World.alloc Wb (Obj.cells #[.int .i64 (G.tet (4 * q + f)), .int .i64 (G.pm (4 * q + f) 0), .int .i64 (G.pm (4 * q + f) 1), .int .i64 (G.pm (4 * q + f) 2), .int .i64 (G.pm (4 * q + f) 3)] 87)) = Wc
              obtain ⟨E, hE⟩ : ∃ E, E = Wb.heap.size := ⟨_, rfl⟩
              have hcc : Wb.grownBy Wc none ∧ Wc.cell? ⟨E, 0, none⟩ = some (.int .i64 (G.tet (4 * q + f))) ∧ Wc.cell? ⟨E, 1, none⟩ = some (.int .i64 (G.pm (4 * q + f) 0)) ∧ Wc.cell? ⟨E, 2, none⟩ = some (.int .i64 (G.pm (4 * q + f) 1)) ∧ Wc.cell? ⟨E, 3, none⟩ = some (.int .i64 (G.pm (4 * q + f) 2)) ∧ Wc.cell? ⟨E, 4, none⟩ = some (.int .i64 (G.pm (4 * q + f) 3)) := by
                rw [← hWc, hE]
                refine ⟨?_, by simp [go_sem], by simp [go_sem], by simp [go_sem], by simp [go_sem], by simp [go_sem]⟩
                exact grownBy_trans (World.grownBy_alloc Wb _ none) (grownBy_drew _ none)
              rw [← hE]
              obtain ⟨hcg, e0, e1, e2, e3, e4⟩ := hcc
              clear hWc hE y0 a0 a1 p0 p1 p2 p3 p4 y0a a0a a1a p0a p1a p2a p3a p4a
              have HC := Lib.hid (And.intro (HL.out.1.1.kept hcg) (HL.out.1.2.1.kept hcg (by simp) (by simp)))
              clear hcg
              obtain ⟨T, hT⟩ : ∃ T, T = G.tet (4 * q + f) := ⟨_, rfl⟩
              rw [← hT] at e0
              have HTT := Lib.hid hT
              clear hT
              rcases Int.lt_or_le T 0 with hT0 | hT0
              · have q1 : decide (0 ≤ T) = false := by simp; omega
                go_wp2
                go_roundg cnt1
                case measure => exact H9.out.2.2
                case rel => exact ⟨_, _, _, HTI.out.skip HS.out.1 HDD.out (fun x => by rw [← HTT.out] at x; omega), HC.out.1, HC.out.2⟩
              · have q1 : decide (0 ≤ T) = true := by simp; omega
                have h43 := Sign_walk (G.pm (4 * q + f)) Wc
                have H43 := Lib.hid h43
                clear h43
                obtain ⟨z, hz⟩ : ∃ z, z = SignI (G.pm (4 * q + f)) := ⟨_, rfl⟩
                rw [← hz] at H43
                have HZZ := Lib.hid hz
                clear hz
                by_cases hz1 : z = 1
                · subst hz1
                  go_wp2_with ((go_at_call 43; (with_reducible refine H43.out.mono ?_); rintro e w4 ⟨rfl, hb4⟩; have hc4 := HC.out.1.kept (below_grown hb4 (Nat.le_refl _) none); have hm4 := HC.out.2.kept (below_grown hb4 (Nat.le_refl _) none) (by simp) (by simp); obtain ⟨g, gc, xo, hue, y2, z2, hDg, hgs⟩ := hc4.at hck; obtain ⟨rfl, -, rfl⟩ : ua = some ⟨g, 0, none⟩ ∧ k = k ∧ uc = gc := (by simpa using hue); have d1 := hc4.d1; have H4 := Lib.hid (And.intro hc4 hm4); clear hc4 hm4 hb4 hue))
                  go_roundg cnt1
                  case measure => exact H9.out.2.2
                  case rel =>
                    have hal := World.grownBy_alloc w4 (.cells #[.int .i64 1, .int .i64 0] 3) none
                    rw [← World.setCell_alloc_past _ _ _ _ hgs]
                    refine ⟨_, _, _, HTI.out.turn HS.out.1 HDD.out ⟨by rw [← HTT.out]; exact hT0, HZZ.out.symm⟩, COx.put (j := c) (f := fun i => if i = 0 then 1 else 0) H4.out.1 hal ⟨_, w4.heap.size, 2, rfl, fun _ => ⟨rfl, by omega, by simp, by simp; omega⟩, fun i hi => ?_⟩, (H4.out.2.kept hal (by simp) (by simp)).kept (grownBy_setCell _ g c _) ?_ ?_⟩
                    · rcases (show i = 0 ∨ i = 1 by omega) with rfl | rfl <;> simp [go_sem]
                    · have hmb : mb < W1.heap.size := by
                        obtain ⟨_, hm5⟩ := HS.out.2.map
                        exact hm5.lt
                      have := HD.out
                      simp; omega
                    · have := H4.out.2.noOwn H4.out.1.own
                      simpa [Value.ownBlock, eq_comm] using this
                · have q2 : (z == 1) = false := by simpa using hz1
                  go_wp2_with ((go_at_call 43; (with_reducible refine H43.out.mono ?_); rintro e w4 ⟨rfl, hb4⟩; have hc4 := HC.out.1.kept (below_grown hb4 (Nat.le_refl _) none); have hm4 := HC.out.2.kept (below_grown hb4 (Nat.le_refl _) none) (by simp) (by simp); have H4 := Lib.hid (And.intro hc4 hm4); clear hc4 hm4 hb4))
                  go_roundg cnt1
                  case measure => exact H9.out.2.2
                  case rel => exact ⟨_, _, _, HTI.out.skip HS.out.1 HDD.out (fun x => hz1 (by rw [HZZ.out]; exact x.2)), H4.out.1, H4.out.2⟩
end Go.Proofs.Ytlckpgahijlmoaa
