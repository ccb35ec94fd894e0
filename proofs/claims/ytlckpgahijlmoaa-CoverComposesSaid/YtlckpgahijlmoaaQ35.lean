/- The classes of triangles are pairs of faces; the gluing of a covering is valid. Plain laws. -/
import Derived.Test.YtlckpgahijlmoaaQ34
import Derived.Test.YtlckpgahijlmoaaQ21
import Derived.Test.YtlckpgahijlmoaaQ24
/- cover's Check and Make. -/
namespace Go.Proofs.Ytlckpgahijlmoaa
open Go.RowKit Go.Shelf Go.Maps

/-- asked's error -/
def AskedErr (G : Gl) (sh : Int) (np : Nat) (len : Nat → Nat) (fp : Nat → Nat → Int) (c : Int) : Prop :=
  (checkB G = false ∧ c = 7) ∨ (checkB G = true ∧ (∃ i, i < nE G ∧ revK G (6 * G.n) i = true) ∧ c = 8) ∨
  (checkB G = true ∧ (∀ i, i < nE G → revK G (6 * G.n) i = false) ∧ ¬ CovOK G sh np len fp ∧ c = 110) ∨
  (checkB G = true ∧ (∀ i, i < nE G → revK G (6 * G.n) i = false) ∧ CovOK G sh np len fp ∧ c = 0)
/-- asked's answer, by its error -/
theorem AskedAns.out {G : Gl} {v : Value} {sh : Int} {pv : Value} {np : Nat} {len : Nat → Nat} {fp : Nat → Nat → Int} {e : Ending} {w' : World} (h : AskedAns G v sh pv np len fp e w') :
    (∃ c, c ≠ 0 ∧ e = .returned (.tuple #[.pointer none, .int .i64 c]) ∧ AskedErr G sh np len fp c) ∨
    (∃ Cv B' X mb bv vv ev tv lv dB rB, e = .returned (.tuple #[.pointer (some ⟨Cv, 0, none⟩), .int .i64 0]) ∧ AskedErr G sh np len fp 0 ∧ checkB G = true ∧ CovOK G sh np len fp ∧ CV w' w'.heap.size Cv B' X mb v pv bv G vv ev tv lv dB rB sh.toNat fp (fun k => invP (fp k) sh.toNat)) := by
  rcases h with ⟨h1, h2⟩ | ⟨h1, h2, h3⟩ | ⟨h1, h2, h3, h4⟩ | ⟨h1, h2, h3, Cv, B', X, mb, bv, vv, ev, tv, lv, dB, rB, h4, h5⟩
  · exact .inl ⟨7, by omega, h2, .inl ⟨h1, rfl⟩⟩
  · exact .inl ⟨8, by omega, h3, .inr (.inl ⟨h1, h2, rfl⟩)⟩
  · exact .inl ⟨110, by omega, h4, .inr (.inr (.inl ⟨h1, h2, h3, rfl⟩))⟩
  · exact .inr ⟨Cv, B', X, mb, bv, vv, ev, tv, lv, dB, rB, h4, .inr (.inr (.inr ⟨h1, h2, h3, rfl⟩)), h1, h3, h5⟩
theorem CovOK.range {G : Gl} {sh : Int} {np : Nat} {len : Nat → Nat} {fp : Nat → Nat → Int} (h : CovOK G sh np len fp) : ∀ k, k < nF G → ∀ i, i < sh.toNat → 0 ≤ fp k i ∧ fp k i < sh.toNat := fun k hk i hi => by
  have h1 := permB_range (h.perms k (by rw [h.num]; exact hk))
  have h2 := h.lo
  have h3 := h1.2 i (by omega)
  omega
theorem CovOK.irange {G : Gl} {sh : Int} {np : Nat} {len : Nat → Nat} {fp : Nat → Nat → Int} (h : CovOK G sh np len fp) : ∀ k, k < nF G → ∀ i, i < sh.toNat → 0 ≤ invP (fp k) sh.toNat i ∧ invP (fp k) sh.toNat i < sh.toNat := fun k hk i hi =>
  invP_range (by have := h.lo; omega) i sh.toNat (Nat.le_refl _)
theorem CovOK.small {G : Gl} {sh : Int} {np : Nat} {len : Nat → Nat} {fp : Nat → Nat → Int} (h : CovOK G sh np len fp) : sh.toNat ≤ 24 ∧ sh.toNat * G.n ≤ 1000 := by
  have h1 := h.lo
  have h2 := h.hi
  have h3 := h.tets
  refine ⟨by omega, ?_⟩
  have : sh = ((sh.toNat : Nat) : Int) := by omega
  rw [this, ← Int.natCast_mul] at h3
  omega

theorem GlAt.setSlot {B : Nat} {W : World} {u : Value} {H : Gl} {r : Nat} (h : GlAt B W u H) (hy : W.cell? ⟨r, 0, none⟩ = some (.slice none 0 0)) (x : Value) : GlAt B (W.setCell ⟨r, 0, none⟩ x) u H := by
  obtain ⟨a, b, off, cap, rfl, h1, h2⟩ := h
  have oth : ∀ o i, W.cell? ⟨b, o, none⟩ = some (.int .i64 i) → (W.setCell ⟨r, 0, none⟩ x).cell? ⟨b, o, none⟩ = some (.int .i64 i) := fun o i hc => by
    rw [World.cell?_setCell_other (a := ⟨r, 0, none⟩) (b := ⟨b, o, none⟩) _ _ (fun e => by rw [← e, hy] at hc; cases hc)]
    exact hc
  exact ⟨a, b, off, cap, rfl, h1, fun k hk => ⟨oth _ _ (h2 k hk).1, fun i hi => oth _ _ ((h2 k hk).2 i hi)⟩⟩
section
variable (G : Gl) (v : Value) (sh : Int) (pv : Value) (np : Nat) (len : Nat → Nat) (fp : Nat → Nat → Int) (w : World) (hG : GlAt w.heap.size w v G) (hm : G.n ≤ 9223372036854775807) (hpv : LLs w.heap.size w pv np len fp) (hlen : ∀ k, k < np → len k < 4611686018427387904) (hnp : np < 4611686018427387904)
include hG hm hpv hlen hnp
set_option maxRecDepth 100000 in
set_option maxHeartbeats 1000000 in
theorem coverCheck_walk : Calls Try.prog 14 #[.agg #[v], .agg #[.int .i64 sh, pv]] w fun e w' => Below w.heap.size w w' ∧ ∃ c, e = .returned (.int .i64 c) ∧ AskedErr G sh np len fp c := by
  have HG := Lib.hid (And.intro hG (And.intro hpv hlen))
  obtain ⟨a, cap, rfl⟩ : ∃ a cap, v = .slice a G.n cap := by obtain ⟨a, _, _, cap, e, _⟩ := hG; exact ⟨a, cap, e⟩
  obtain ⟨pa, pc, rfl⟩ : ∃ a cap, pv = .slice a np cap := by obtain ⟨a, _, _, cap, e, _⟩ := hpv; exact ⟨a, cap, e⟩
  clear hG hpv hlen
  go_enter Try.func14, Try.ntmps14
  go_wp2_with fail
  refine wp_world_named fun W0 hW => ?_
  have hb : Below w.heap.size w W0 := by rw [hW]; (repeat' (first | assumption | exact Below.refl _ _ | refine below_then ?_ (by assumption) | refine below_al ?_ _ | refine below_dr ?_ | refine below_sc ?_ (by simp <;> omega) _))
  clear hW
  refine (asked_walk G (.slice a G.n cap) sh (.slice pa np pc) np len fp W0 ((HG.out.1.below hb).mono hb.size) hm ((HG.out.2.1.below hb).mono hb.size) HG.out.2.2 hnp).mono ?_
  rintro e W1 ⟨hb1, h1⟩
  have hbw := hb.trans (hb1.mono hb.size)
  rcases h1.out with ⟨c, hc, rfl, he⟩ | ⟨Cv, B', X, mb, bv, vv, ev, tv, lv, dB, rB, rfl, he, -⟩
  · have HE := Lib.hid (And.intro hbw he)
    clear hb hb1 h1 hbw he hc
    go_wp2
    go_ret
    exact ⟨HE.out.1, _, rfl, HE.out.2⟩
  · have HE := Lib.hid (And.intro hbw he)
    clear hb hb1 h1 hbw he
    go_wp2
    go_ret
    exact ⟨HE.out.1, _, rfl, HE.out.2⟩
set_option maxRecDepth 100000 in
set_option maxHeartbeats 1000000 in
theorem coverMake_walk : Calls Try.prog 11 #[.agg #[v], .agg #[.int .i64 sh, pv]] w fun e w' => Below w.heap.size w w' ∧ ∃ c u, e = .returned (.tuple #[.agg #[u], .int .i64 c]) ∧ AskedErr G sh np len fp c ∧
    ((c ≠ 0 ∧ u = .slice none 0 0) ∨ (c = 0 ∧ CovOK G sh np len fp ∧ GlAt w'.heap.size w' u (covG G fp (fun k => invP (fp k) sh.toNat) sh.toNat))) := by
  have HG := Lib.hid (And.intro hG (And.intro hpv hlen))
  obtain ⟨a, cap, rfl⟩ : ∃ a cap, v = .slice a G.n cap := by obtain ⟨a, _, _, cap, e, _⟩ := hG; exact ⟨a, cap, e⟩
  obtain ⟨pa, pc, rfl⟩ : ∃ a cap, pv = .slice a np cap := by obtain ⟨a, _, _, cap, e, _⟩ := hpv; exact ⟨a, cap, e⟩
  clear hG hpv hlen
  generalize hN : w.heap.size = N at *
  go_enter Try.func11, Try.ntmps11
  go_wp2_with fail
  refine wp_world_named fun W0 hW => ?_
  have h0 : Below N w W0 ∧ W0.cell? ⟨N + 1 + 1, 0, none⟩ = some (.slice none 0 0) ∧ W0.frozen? ⟨N + 1 + 1, 0, none⟩ = false ∧ W0.heap.size = N + 3 := by
    rw [hW]
    subst hN
    exact ⟨by (repeat' (first | assumption | exact Below.refl _ _ | refine below_then ?_ (by assumption) | refine below_al ?_ _ | refine below_dr ?_ | refine below_sc ?_ (by simp <;> omega) _)), by simp [go_sem], by simp [go_sem], by simp⟩
  clear hW
  have hb := h0.1
  have hz0 := h0.2.2.2
  have HNN := Lib.hid hN
  refine (asked_walk G (.slice a G.n cap) sh (.slice pa np pc) np len fp W0 ((HG.out.1.below hb).mono (by omega)) hm ((HG.out.2.1.below hb).mono (by omega)) HG.out.2.2 hnp).mono ?_
  rintro e W1 ⟨hb1, h1⟩
  have hbw := hb.trans (hb1.mono (by omega))
  have hs1 := hb1.size
  have y0 := (hb1.cell (p := ⟨N + 1 + 1, 0, none⟩) (by show N + 1 + 1 < _; omega)).trans h0.2.1
  have z0 := (hb1.frozen (p := ⟨N + 1 + 1, 0, none⟩) (by show N + 1 + 1 < _; omega)).trans h0.2.2.1
  clear hN hz0 h0
  rcases h1.out with ⟨c, hc, rfl, he⟩ | ⟨Cv, B', X, mb, bv, vv, ev, tv, lv, dB, rB, rfl, he, hok, hcov, hCV⟩
  · have HE := Lib.hid (And.intro hbw (And.intro he hc))
    have q1 : (c != 0) = true := by simpa using hc
    clear hb hb1 h1 hbw he hc
    go_wp2
    exact bodyPost_ret (v := .tuple #[.agg #[.slice none 0 0], .int .i64 c]) (by simp [results, Try.results11, go_sem, *]) rfl ⟨HE.out.1.setCell (by show N ≤ N + 1 + 1; omega) _, c, _, rfl, HE.out.2.1, .inl ⟨HE.out.2.2, rfl⟩⟩
  · have hNs : N ≤ W1.heap.size := by have := hb.size; have := HNN.out; omega
    have h45 := gluing_walk hok hCV (Nat.le_refl _) ((HG.out.1.below hbw).mono hNs) hcov.range hcov.irange (by have := hcov.small.1; omega) hcov.small.2
    have HE := Lib.hid (And.intro hbw (And.intro he (And.intro hcov h45)))
    clear hb hb1 h1 hbw he hok hcov hCV h45
    go_wp2_with fail
    refine HE.out.2.2.2.mono ?_
    rintro e W2 ⟨u, rfl, hgl, hb2⟩
    have y2 := (hb2.cell (p := ⟨N + 1 + 1, 0, none⟩) (lt_of_cell y0)).trans y0
    have z2 := (hb2.frozen (p := ⟨N + 1 + 1, 0, none⟩) (lt_of_cell y0)).trans z0
    obtain ⟨ga, gc, rfl⟩ : ∃ ga gc, u = .slice ga (covG G fp (fun k => invP (fp k) sh.toNat) sh.toNat).n gc := by obtain ⟨a, _, _, cap, e, _⟩ := hgl; exact ⟨a, cap, e⟩
    obtain ⟨H, hH⟩ : ∃ H, H = covG G fp (fun k => invP (fp k) sh.toNat) sh.toNat := ⟨_, rfl⟩
    rw [← hH] at hgl ⊢
    have H2 := Lib.hid (And.intro hgl (And.intro hb2 (And.intro hH y2)))
    clear hgl hb2 hH y0 z0
    go_wp2
    refine bodyPost_ret (v := .tuple #[.agg #[.slice ga H.n gc], .int .i64 0]) (by simp [results, Try.results11, go_sem, *]) rfl ⟨(HE.out.1.trans (H2.out.2.1.mono hNs)).setCell (by show N ≤ N + 1 + 1; omega) _, 0, _, rfl, HE.out.2.1, .inr ⟨rfl, HE.out.2.2.1, ?_⟩⟩
    rw [← H2.out.2.2.1, World.size_setCell]
    exact H2.out.1.setSlot H2.out.2.2.2 _
end
end Go.Proofs.Ytlckpgahijlmoaa
namespace Go.Proofs.Ytlckpgahijlmoaa

/-- the number of the face behind a face -/
def tb (G : Gl) (k : Nat) : Nat := 4 * G.T k + G.P k (k % 4)
/-- the first face of its class -/
def isF (G : Gl) (k : Nat) : Prop := G.tet k < 0 ∨ k < tb G k
instance (G : Gl) (k : Nat) : Decidable (isF G k) := by unfold isF; infer_instance
section
variable {G : Gl} (hok : checkB G = true)
include hok
theorem ok_at {k : Nat} (hk : k < 4 * G.n) : okB G k = true := by
  simp only [checkB, Bool.and_eq_true, List.all_eq_true, List.mem_range] at hok
  exact hok.2 k hk
theorem ok_size : G.n ≤ 1000 := by
  simp only [checkB, Bool.and_eq_true, decide_eq_true_eq] at hok
  exact hok.1
theorem ok_parts {k : Nat} (hk : k < 4 * G.n) (ht : ¬ G.tet k < 0) : inTetB G k = true ∧ validF (G.p k) = true ∧ selfB G k = false ∧ matchB G k = true := by
  have h := ok_at hok hk
  simp only [okB, Bool.or_eq_true, Bool.and_eq_true, noneB, beq_iff_eq, Bool.not_eq_true'] at h
  rcases h with h | ⟨⟨⟨a, b⟩, c⟩, d⟩
  · omega
  · exact ⟨a, b, c, d⟩
theorem tb_facts {k : Nat} (hk : k < 4 * G.n) (ht : ¬ G.tet k < 0) : tb G k < 4 * G.n ∧ ¬ G.tet (tb G k) < 0 ∧ tb G (tb G k) = k ∧ tb G k ≠ k ∧ tb G k / 4 = G.T k ∧ tb G k % 4 = G.P k (k % 4) ∧ G.T (tb G k) = k / 4 := by
  obtain ⟨b1, b2, b3, b4⟩ := ok_back hok hk ht
  obtain ⟨h1, h2, hp⟩ := ok_face hok hk ht
  have hP := hp (k % 4) (by omega)
  have e4 : tb G k % 4 = G.P k (k % 4) := by unfold tb; omega
  have e5 : tb G k / 4 = G.T k := by unfold tb; omega
  refine ⟨b1, b2, ?_, fun e => ?_, e5, e4, b3⟩
  · show 4 * G.T (tb G k) + G.P (tb G k) (tb G k % 4) = k
    rw [e4, show G.T (tb G k) = k / 4 from b3, show G.P (tb G k) (G.P k (k % 4)) = k % 4 from b4 _ (by omega)]
    omega
  · have h3 := (ok_parts hok hk ht).2.2.1
    rw [e] at e4 e5
    have hs : selfB G k = true := by
      simp only [selfB, Bool.and_eq_true, beq_iff_eq]
      refine ⟨by rw [h1]; omega, by rw [hP.1]; omega⟩
    rw [hs] at h3; cases h3
theorem tr_at : ∀ m, m ≤ 4 * G.n → ∀ k, k < 4 * G.n → lp (trF G) id m k = if ¬ G.tet k < 0 ∧ min k (tb G k) < m then min k (tb G k) else k
  | 0, _, k, hk => by rw [if_neg (by omega)]; rfl
  | m + 1, hm, k, hk => by
    have ih := tr_at m (by omega)
    rw [lp_succ]
    by_cases ht : G.tet m < 0
    · rw [trF_lt ht, ih k hk]
      have : (¬ G.tet k < 0 ∧ min k (tb G k) < m) ↔ (¬ G.tet k < 0 ∧ min k (tb G k) < m + 1) := by
        constructor
        · rintro ⟨a, b⟩; exact ⟨a, by omega⟩
        · rintro ⟨a, b⟩
          refine ⟨a, ?_⟩
          rcases Nat.lt_or_ge (min k (tb G k)) m with h | h
          · exact h
          · exfalso
            have hm2 : min k (tb G k) = m := by omega
            rcases Nat.le_total k (tb G k) with q | q
            · rw [Nat.min_eq_left q] at hm2; subst hm2; exact a ht
            · rw [Nat.min_eq_right q] at hm2
              have := (tb_facts hok hk a).2.1
              rw [hm2] at this; exact this ht
      simp only [this]
    · rw [trF_ge ht]
      obtain ⟨f1, f2, f3, f4, f5, f6, f7⟩ := tb_facts hok (show m < 4 * G.n by omega) ht
      show joinR _ m (tb G m) k = _
      have em := ih m (by omega)
      have et := ih (tb G m) f1
      rw [f3] at et
      by_cases hlt : tb G m < m
      · rw [if_pos ⟨ht, by omega⟩, Nat.min_eq_right (by omega)] at em
        rw [if_pos ⟨f2, by omega⟩, Nat.min_eq_left (by omega)] at et
        rw [join_same (by rw [em, et]), ih k hk]
        have : (¬ G.tet k < 0 ∧ min k (tb G k) < m) ↔ (¬ G.tet k < 0 ∧ min k (tb G k) < m + 1) := by
          constructor
          · rintro ⟨a, b⟩; exact ⟨a, by omega⟩
          · rintro ⟨a, b⟩
            refine ⟨a, ?_⟩
            rcases Nat.lt_or_ge (min k (tb G k)) m with h | h
            · exact h
            · exfalso
              have hm2 : min k (tb G k) = m := by omega
              obtain ⟨g1, g2, g3, g4, -⟩ := tb_facts hok hk a
              rcases Nat.le_total k (tb G k) with q | q
              · rw [Nat.min_eq_left q] at hm2; subst hm2; omega
              · rw [Nat.min_eq_right q] at hm2
                rw [hm2] at g3; omega
        simp only [this]
      · rw [if_neg (by omega)] at em
        rw [if_neg (by omega)] at et
        unfold joinR
        rw [em, et, Nat.max_eq_right (by omega), Nat.min_eq_left (by omega), ih k hk]
        by_cases e1 : k = tb G m
        · subst e1
          rw [f3, if_neg (show ¬(¬ G.tet (tb G m) < 0 ∧ min (tb G m) m < m) by omega), if_pos rfl, if_pos ⟨f2, by omega⟩]; omega
        · by_cases e2 : k = m
          · subst e2
            rw [if_neg (show ¬(¬ G.tet k < 0 ∧ min k (tb G k) < k) by omega), if_neg (by omega), if_pos ⟨ht, by omega⟩]; omega
          · have : (¬ G.tet k < 0 ∧ min k (tb G k) < m) ↔ (¬ G.tet k < 0 ∧ min k (tb G k) < m + 1) := by
              constructor
              · rintro ⟨a, b⟩; exact ⟨a, by omega⟩
              · rintro ⟨a, b⟩
                refine ⟨a, ?_⟩
                rcases Nat.lt_or_ge (min k (tb G k)) m with h | h
                · exact h
                · exfalso
                  have hm2 : min k (tb G k) = m := by omega
                  obtain ⟨g1, g2, g3, g4, -⟩ := tb_facts hok hk a
                  rcases Nat.le_total k (tb G k) with q | q
                  · rw [Nat.min_eq_left q] at hm2; exact e2 hm2
                  · rw [Nat.min_eq_right q] at hm2
                    rw [hm2] at g3; omega
            simp only [← this]
            by_cases c : ¬ G.tet k < 0 ∧ min k (tb G k) < m
            · rw [if_pos c]
              have hne : min k (tb G k) ≠ tb G m := by
                intro e
                obtain ⟨g1, g2, g3, g4, -⟩ := tb_facts hok hk c.1
                rcases Nat.le_total k (tb G k) with q | q
                · rw [Nat.min_eq_left q] at e; exact e1 e
                · rw [Nat.min_eq_right q] at e
                  rw [e, f3] at g3; exact e2 g3.symm
              rw [if_neg hne]
            · rw [if_neg c, if_neg e1]
/-- the root of a face's class -/
theorem r4_at {k : Nat} (hk : k < 4 * G.n) : (clsAll G).r4 k = if G.tet k < 0 then k else min k (tb G k) := by
  rw [cls_r4, tr_at hok _ (Nat.le_refl _) k hk]
  by_cases ht : G.tet k < 0
  · rw [if_neg (fun e => e.1 ht), if_pos ht]
  · rw [if_pos ⟨ht, by omega⟩, if_neg ht]
theorem isF_root {k : Nat} (hk : k < 4 * G.n) : (clsAll G).r4 k = k ↔ isF G k := by
  rw [r4_at hok hk]
  unfold isF
  by_cases ht : G.tet k < 0
  · simp [ht]
  · have := (tb_facts hok hk ht).2.2.2.1
    simp only [ht, if_false, false_or]; omega
theorem fN_tb {k : Nat} (hk : k < 4 * G.n) (ht : ¬ G.tet k < 0) : fN G (tb G k) = fN G k := by
  obtain ⟨f1, f2, f3, -⟩ := tb_facts hok hk ht
  unfold fN
  rw [r4_at hok hk, r4_at hok f1, if_neg ht, if_neg f2, f3, Nat.min_comm]
theorem fN_eq {k m : Nat} (hk : k < 4 * G.n) (hm : m < 4 * G.n) (h : fN G k = fN G m) : k = m ∨ (¬ G.tet k < 0 ∧ m = tb G k) := by
  obtain ⟨u, hu⟩ := (cls_inv hok).2.2.2
  have h1 := cnt_inj (hu.idem k hk) (hu.idem m hm) h
  rw [r4_at hok hk, r4_at hok hm] at h1
  by_cases t1 : G.tet k < 0 <;> by_cases t2 : G.tet m < 0
  · simp [t1, t2] at h1; exact .inl h1
  · simp [t1, t2] at h1
    have := tb_facts hok hm t2
    rcases Nat.le_total m (tb G m) with q | q
    · rw [Nat.min_eq_left q] at h1; exact .inl h1
    · rw [Nat.min_eq_right q] at h1; rw [← h1] at this; exact absurd t1 this.2.1
  · simp [t1, t2] at h1
    have := tb_facts hok hk t1
    rcases Nat.le_total k (tb G k) with q | q
    · rw [Nat.min_eq_left q] at h1; exact .inl h1
    · rw [Nat.min_eq_right q] at h1; rw [h1] at this; exact absurd t2 this.2.1
  · simp [t1, t2] at h1
    have f := tb_facts hok hk t1
    have g := tb_facts hok hm t2
    by_cases e : k = m
    · exact .inl e
    · refine .inr ⟨t1, ?_⟩
      rcases Nat.le_total k (tb G k) with q | q <;> rcases Nat.le_total m (tb G m) with q2 | q2
      · rw [Nat.min_eq_left q, Nat.min_eq_left q2] at h1; exact absurd h1 e
      · rw [Nat.min_eq_left q, Nat.min_eq_right q2] at h1
        rw [h1, g.2.2.1]
      · rw [Nat.min_eq_right q, Nat.min_eq_left q2] at h1; exact h1.symm
      · rw [Nat.min_eq_right q, Nat.min_eq_right q2] at h1
        have := f.2.2.1
        rw [h1, g.2.2.1] at this; exact absurd this.symm e
theorem fD_at : ∀ m, m ≤ 4 * G.n → ∀ t f, f < 4 → fD G m (t, f) = if 4 * t + f < m ∧ isF G (4 * t + f) then some (fN G (4 * t + f)) else none
  | 0, _, t, f, hf => by rw [if_neg (by omega)]; rfl
  | m + 1, hm, t, f, hf => by
    have ih := fD_at m (by omega) t f hf
    have hr : fN G m = cnt (clsAll G).r4 m ↔ isF G m := by
      rw [← isF_root hok (by omega)]
      obtain ⟨u, hu⟩ := (cls_inv hok).2.2.2
      have h1 := hu.rle m (by omega)
      have h2 := hu.idem m (by omega)
      constructor
      · intro e
        by_cases q : (clsAll G).r4 m = m
        · exact q
        · have := cnt_lt (clsAll G).r4 (i := m) (n := m) h2 (by omega)
          unfold fN at e; omega
      · intro e; unfold fN; rw [e]
    unfold fD
    by_cases e : 4 * t + f = m
    · have e1 : m / 4 = t := by omega
      have e2 : m % 4 = f := by omega
      by_cases c : isF G m
      · rw [if_pos (hr.2 c), e1, e2]
        simp only [if_true]
        rw [if_pos (by rw [e]; exact ⟨by omega, c⟩), e]
      · rw [if_neg (fun q => c (hr.1 q)), ih, if_neg (by rw [e]; exact fun q => c q.2), if_neg (by rw [e]; exact fun q => c q.2)]
    · have hne : (t, f) ≠ (m / 4, m % 4) := fun q => by
        have := Prod.mk.inj q
        omega
      have : (4 * t + f < m ∧ isF G (4 * t + f)) ↔ (4 * t + f < m + 1 ∧ isF G (4 * t + f)) := by
        constructor
        · rintro ⟨a, b⟩; exact ⟨by omega, b⟩
        · rintro ⟨a, b⟩; exact ⟨by omega, b⟩
      by_cases c : fN G m = cnt (clsAll G).r4 m
      · rw [if_pos c]
        simp only [hne, if_false]
        rw [ih]; simp only [this]
      · rw [if_neg c, ih]; simp only [this]
theorem fD_first {t f : Nat} (ht : t < G.n) (hf : f < 4) : (fD G (4 * G.n) (t, f)).isSome = true ↔ isF G (4 * t + f) := by
  rw [fD_at hok _ (Nat.le_refl _) t f hf]
  by_cases c : isF G (4 * t + f)
  · rw [if_pos ⟨by omega, c⟩]; simp [c]
  · rw [if_neg (fun q => c q.2)]; simp [c]
/-- the sheet behind a face -/
theorem crF_at (f g : Nat → Nat → Int) {t fc : Nat} (ht : t < G.n) (hf : fc < 4) (i : Nat) : crF G f g t fc i = if isF G (4 * t + fc) then f (fN G (4 * t + fc)) i else g (fN G (4 * t + fc)) i := by
  unfold crF
  by_cases c : isF G (4 * t + fc)
  · rw [if_pos ((fD_first hok ht hf).2 c), if_pos c]
  · rw [if_neg (fun q => c ((fD_first hok ht hf).1 q)), if_neg c]
theorem isF_tb {k : Nat} (hk : k < 4 * G.n) (ht : ¬ G.tet k < 0) : isF G (tb G k) ↔ ¬ isF G k := by
  obtain ⟨f1, f2, f3, f4, -⟩ := tb_facts hok hk ht
  unfold isF
  rw [f3]
  simp only [f2, ht, false_or]; omega
end

/-- permutations of the sheets, one for each class, and their inverses -/
structure Sh (G : Gl) (sh : Nat) (f g : Nat → Nat → Int) : Prop where
  fr : ∀ k i, k < nF G → i < sh → ∃ j : Nat, f k i = j ∧ j < sh
  gr : ∀ k i, k < nF G → i < sh → ∃ j : Nat, g k i = j ∧ j < sh
  gf : ∀ k i (j : Nat), k < nF G → i < sh → f k i = j → g k j = i
  fg : ∀ k i (j : Nat), k < nF G → i < sh → g k i = j → f k j = i
section
variable {G : Gl} {sh : Nat} {f g : Nat → Nat → Int} (hok : checkB G = true) (hS : Sh G sh f g)
include hok hS
/-- the sheet behind a face is one, and the way back leads home -/
theorem cr_back {k s : Nat} (hk : k < 4 * G.n) (ht : ¬ G.tet k < 0) (hs : s < sh) : ∃ s' : Nat, crF G f g (k / 4) (k % 4) s = s' ∧ s' < sh ∧ crF G f g (tb G k / 4) (tb G k % 4) s' = s := by
  obtain ⟨f1, f2, f3, -⟩ := tb_facts hok hk ht
  have e1 : 4 * (k / 4) + k % 4 = k := by omega
  have e2 : 4 * (tb G k / 4) + tb G k % 4 = tb G k := by omega
  rw [crF_at hok f g (by omega) (by omega), e1]
  have hc : ∀ i, crF G f g (tb G k / 4) (tb G k % 4) i = if isF G (tb G k) then f (fN G k) i else g (fN G k) i := fun i => by
    rw [crF_at hok f g (by omega) (by omega), e2, fN_tb hok hk ht]
  have hn := fN_lt hok hk
  by_cases c : isF G k
  · obtain ⟨j, hj, hl⟩ := hS.fr _ s hn hs
    refine ⟨j, by rw [if_pos c, hj], hl, ?_⟩
    rw [hc, if_neg (fun q => (isF_tb hok hk ht).1 q c)]
    exact hS.gf _ s j hn hs hj
  · obtain ⟨j, hj, hl⟩ := hS.gr _ s hn hs
    refine ⟨j, by rw [if_neg c, hj], hl, ?_⟩
    rw [hc, if_pos ((isF_tb hok hk ht).2 c)]
    exact hS.fg _ s j hn hs hj
/-- a face of the covering -/
theorem cov_face {s k : Nat} (hs : s < sh) (hk : k < 4 * G.n) : (covG G f g sh).pm (4 * G.n * s + k) = G.pm k ∧ (G.tet k < 0 → (covG G f g sh).tet (4 * G.n * s + k) = G.tet k) ∧
    (¬ G.tet k < 0 → ∃ s' : Nat, s' < sh ∧ crF G f g (k / 4) (k % 4) s = s' ∧ (covG G f g sh).tet (4 * G.n * s + k) = ((s' * G.n + G.T k : Nat) : Int) ∧ tb (covG G f g sh) (4 * G.n * s + k) = 4 * G.n * s' + tb G k ∧ crF G f g (tb G k / 4) (tb G k % 4) s' = s) := by
  have h := covG_at G f g sh s (k / 4) (k % 4) (by omega) (by omega)
  have e : 4 * (s * G.n + k / 4) + k % 4 = 4 * G.n * s + k := by
    have : 4 * (s * G.n) = 4 * G.n * s := by rw [Nat.mul_comm s, Nat.mul_assoc]
    omega
  rw [e, show 4 * (k / 4) + k % 4 = k by omega] at h
  refine ⟨h.2, fun ht => by rw [h.1, if_pos ht], fun ht => ?_⟩
  obtain ⟨s', h1, h2, h3⟩ := cr_back hok hS hk ht hs
  have e3 : (covG G f g sh).tet (4 * G.n * s + k) = ((s' * G.n + G.T k : Nat) : Int) := by
    rw [h.1, if_neg ht, h1, (ok_face hok hk ht).1]; push_cast; rfl
  refine ⟨s', h2, h1, e3, ?_, h3⟩
  have e4 : (covG G f g sh).T (4 * G.n * s + k) = s' * G.n + G.T k := by
    show ((covG G f g sh).tet (4 * G.n * s + k)).toNat = _
    rw [e3, Int.toNat_natCast]
  unfold tb
  rw [e4]
  have e5 : (4 * G.n * s + k) % 4 = k % 4 := by rw [Nat.mul_assoc]; omega
  rw [e5, show (covG G f g sh).P (4 * G.n * s + k) (k % 4) = G.P k (k % 4) by simp only [Gl.P, h.2]]
  have : 4 * (s' * G.n) = 4 * G.n * s' := by rw [Nat.mul_comm s', Nat.mul_assoc]
  omega
theorem cov_split {K : Nat} (hK : K < 4 * (sh * G.n)) : ∃ s k, s < sh ∧ k < 4 * G.n ∧ K = 4 * G.n * s + k := by
  have _ := hok
  have _ := hS
  have hp : 0 < 4 * G.n := by
    rcases Nat.eq_zero_or_pos G.n with e | e
    · rw [e] at hK; simp at hK
    · omega
  refine ⟨K / (4 * G.n), K % (4 * G.n), ?_, Nat.mod_lt _ hp, (Nat.div_add_mod K (4 * G.n)).symm⟩
  apply Nat.div_lt_of_lt_mul
  rw [show 4 * G.n * sh = 4 * (sh * G.n) by rw [Nat.mul_comm sh, Nat.mul_assoc]]
  exact hK
/-- the gluing of a covering is valid -/
theorem cov_valid (hsz : sh * G.n ≤ 1000) : checkB (covG G f g sh) = true := by
  simp only [checkB, Bool.and_eq_true, decide_eq_true_eq, List.all_eq_true, List.mem_range]
  refine ⟨hsz, fun K hK => ?_⟩
  obtain ⟨s, k, hs, hk, rfl⟩ := cov_split hok hS (show K < 4 * (sh * G.n) from hK)
  obtain ⟨hp, hneg, hpos⟩ := cov_face hok hS hs hk
  have h0 := ok_at hok hk
  have em : (4 * G.n * s + k) % 4 = k % 4 := by rw [Nat.mul_assoc]; omega
  have ed : (4 * G.n * s + k) / 4 = s * G.n + k / 4 := by rw [Nat.mul_assoc, Nat.mul_comm s]; omega
  by_cases ht : G.tet k < 0
  · have : noneB G k = true := by
      simp only [okB, Bool.or_eq_true, Bool.and_eq_true, inTetB, decide_eq_true_eq] at h0
      rcases h0 with h0 | h0
      · exact h0
      · omega
    have hn : noneB (covG G f g sh) (4 * G.n * s + k) = true := by
      simp only [noneB, hp, hneg ht]; exact this
    simp [okB, hn]
  · obtain ⟨s', h1, h2, h3, h4, h5⟩ := hpos ht
    obtain ⟨q1, q2, q3, q4⟩ := ok_parts hok hk ht
    obtain ⟨t1, t2, tp⟩ := ok_face hok hk ht
    obtain ⟨f1, f2, f3, f4, f5, f6, f7⟩ := tb_facts hok hk ht
    have hpp : (covG G f g sh).p (4 * G.n * s + k) = G.p k := by funext i; simp only [Gl.p, hp]
    have hle : s' * G.n + G.n ≤ sh * G.n := by
      have : (s' + 1) * G.n ≤ sh * G.n := Nat.mul_le_mul_right _ h1
      rw [Nat.succ_mul] at this; exact this
    have hback : (covG G f g sh).back (4 * G.n * s + k) = 4 * G.n * s' + tb G k := by
      rw [← h4]; rfl
    obtain ⟨p2, n2, o2⟩ := cov_face hok hS h1 f1
    obtain ⟨s2, g1, g2, g3, g4, g5⟩ := o2 f2
    have es : s2 = s := by rw [h5] at g2; omega
    subst es
    have c1 : inTetB (covG G f g sh) (4 * G.n * s2 + k) = true := by
      simp only [inTetB, h3, Bool.and_eq_true, decide_eq_true_eq]
      refine ⟨by omega, ?_⟩
      show ((s' * G.n + G.T k : Nat) : Int) < ((sh * G.n : Nat) : Int)
      omega
    have c2 : selfB (covG G f g sh) (4 * G.n * s2 + k) = false := by
      rw [Bool.eq_false_iff]
      intro hse
      simp only [selfB, Bool.and_eq_true, beq_iff_eq, h3, hp, em, ed] at hse
      have hsx : s' * G.n + G.T k = s2 * G.n + k / 4 := by have := hse.1; omega
      have hkd : k / 4 < G.n := by omega
      have hT : G.T k = k / 4 := by
        have e1 := (blk (s := s') t2).2
        have e2 := (blk (s := s2) hkd).2
        rw [hsx, e2] at e1; exact e1.symm
      have : selfB G k = true := by
        simp only [selfB, Bool.and_eq_true, beq_iff_eq]
        exact ⟨by rw [t1, hT], hse.2⟩
      rw [this] at q3; cases q3
    have c3 : matchB (covG G f g sh) (4 * G.n * s2 + k) = true := by
      simp only [matchB, hback, p2, g3, hpp, ed, Bool.and_eq_true, beq_iff_eq]
      simp only [matchB, Bool.and_eq_true, beq_iff_eq, show G.back k = tb G k from rfl] at q4
      exact ⟨by rw [f7], q4.2⟩
    simp [okB, c1, hpp, q2, c2, c3]
end
end Go.Proofs.Ytlckpgahijlmoaa
