/- cover's Compose: the lists under way. -/
import Derived.Test.YtlckpgahijlmoaaQ31
import Derived.Test.YtlckpgahijlmoaaQ34
import Derived.Test.YtlckpgahijlmoaaQ29
/- cover's Check and Make. -/
namespace Go.Proofs.Ytlckpgahijlmoaa
open Go.RowKit Go.Shelf Go.Maps

/-- asked's error -/
def AskedErr (G : Gl) (sh : Int) (np : Nat) (len : Nat → Nat) (fp : Nat → Nat → Int) (c : Int) : Prop :=
  (checkB G = false ∧ c = 7) ∨ (checkB G = true ∧ (∃ i, i < nE G ∧ revK G (6 * G.n) i = true) ∧ c = 8) ∨
  (checkB G = true ∧ (∀ i, i < nE G → revK G (6 * G.n) i = false) ∧ ¬ CovOK G sh np len fp ∧ c = 110) ∨
  (checkB G = true ∧ (∀ i, i < nE G → revK G (6 * G.n) i = false) ∧ CovOK G sh np len fp ∧ c = 0)
/-- asked's answer, by its error -/
theorem AskedAns.out {G : Gl} {v : Value} {sh : Int} {pv : Value} {np : Nat} {len : Nat → Nat} {fp : Nat → Nat → Int} {e : Ending} {w' : World} (h : AskedAns G v sh pv np len fp e w') :
    (∃ c, c ≠ 0 ∧ e = .returned (.tuple #[.pointer none, .int .i64 c]) ∧ AskedErr G sh np len fp c) ∨
    (∃ Cv B' X mb bv vv ev tv lv dB rB, e = .returned (.tuple #[.pointer (some ⟨Cv, 0, none⟩), .int .i64 0]) ∧ AskedErr G sh np len fp 0 ∧ checkB G = true ∧ CovOK G sh np len fp ∧ CV w' w'.heap.size Cv B' X mb v pv bv G vv ev tv lv dB rB sh.toNat fp (fun k => invP (fp k) sh.toNat)) := by
  rcases h with ⟨h1, h2⟩ | ⟨h1, h2, h3⟩ | ⟨h1, h2, h3, h4⟩ | ⟨h1, h2, h3, Cv, B', X, mb, bv, vv, ev, tv, lv, dB, rB, h4, h5⟩
  · exact .inl ⟨7, by omega, h2, .inl ⟨h1, rfl⟩⟩
  · exact .inl ⟨8, by omega, h3, .inr (.inl ⟨h1, h2, rfl⟩)⟩
  · exact .inl ⟨110, by omega, h4, .inr (.inr (.inl ⟨h1, h2, h3, rfl⟩))⟩
  · exact .inr ⟨Cv, B', X, mb, bv, vv, ev, tv, lv, dB, rB, h4, .inr (.inr (.inr ⟨h1, h2, h3, rfl⟩)), h1, h3, h5⟩
theorem CovOK.range {G : Gl} {sh : Int} {np : Nat} {len : Nat → Nat} {fp : Nat → Nat → Int} (h : CovOK G sh np len fp) : ∀ k, k < nF G → ∀ i, i < sh.toNat → 0 ≤ fp k i ∧ fp k i < sh.toNat := fun k hk i hi => by
  have h1 := permB_range (h.perms k (by rw [h.num]; exact hk))
  have h2 := h.lo
  have h3 := h1.2 i (by omega)
  omega
theorem CovOK.irange {G : Gl} {sh : Int} {np : Nat} {len : Nat → Nat} {fp : Nat → Nat → Int} (h : CovOK G sh np len fp) : ∀ k, k < nF G → ∀ i, i < sh.toNat → 0 ≤ invP (fp k) sh.toNat i ∧ invP (fp k) sh.toNat i < sh.toNat := fun k hk i hi =>
  invP_range (by have := h.lo; omega) i sh.toNat (Nat.le_refl _)
theorem CovOK.small {G : Gl} {sh : Int} {np : Nat} {len : Nat → Nat} {fp : Nat → Nat → Int} (h : CovOK G sh np len fp) : sh.toNat ≤ 24 ∧ sh.toNat * G.n ≤ 1000 := by
  have h1 := h.lo
  have h2 := h.hi
  have h3 := h.tets
  refine ⟨by omega, ?_⟩
  have : sh = ((sh.toNat : Nat) : Int) := by omega
  rw [this, ← Int.natCast_mul] at h3
  omega

theorem GlAt.setSlot {B : Nat} {W : World} {u : Value} {H : Gl} {r : Nat} (h : GlAt B W u H) (hy : W.cell? ⟨r, 0, none⟩ = some (.slice none 0 0)) (x : Value) : GlAt B (W.setCell ⟨r, 0, none⟩ x) u H := by
  obtain ⟨a, b, off, cap, rfl, h1, h2⟩ := h
  have oth : ∀ o i, W.cell? ⟨b, o, none⟩ = some (.int .i64 i) → (W.setCell ⟨r, 0, none⟩ x).cell? ⟨b, o, none⟩ = some (.int .i64 i) := fun o i hc => by
    rw [World.cell?_setCell_other (a := ⟨r, 0, none⟩) (b := ⟨b, o, none⟩) _ _ (fun e => by rw [← e, hy] at hc; cases hc)]
    exact hc
  exact ⟨a, b, off, cap, rfl, h1, fun k hk => ⟨oth _ _ (h2 k hk).1, fun i hi => oth _ _ ((h2 k hk).2 i hi)⟩⟩
section
variable (G : Gl) (v : Value) (sh : Int) (pv : Value) (np : Nat) (len : Nat → Nat) (fp : Nat → Nat → Int) (w : World) (hG : GlAt w.heap.size w v G) (hm : G.n ≤ 9223372036854775807) (hpv : LLs w.heap.size w pv np len fp) (hlen : ∀ k, k < np → len k < 4611686018427387904) (hnp : np < 4611686018427387904)
include hG hm hpv hlen hnp
set_option maxRecDepth 100000 in
set_option maxHeartbeats 1000000 in
theorem coverCheck_walk : Calls Try.prog 14 #[.agg #[v], .agg #[.int .i64 sh, pv]] w fun e w' => Below w.heap.size w w' ∧ ∃ c, e = .returned (.int .i64 c) ∧ AskedErr G sh np len fp c := by
  have HG := Lib.hid (And.intro hG (And.intro hpv hlen))
  obtain ⟨a, cap, rfl⟩ : ∃ a cap, v = .slice a G.n cap := by obtain ⟨a, _, _, cap, e, _⟩ := hG; exact ⟨a, cap, e⟩
  obtain ⟨pa, pc, rfl⟩ : ∃ a cap, pv = .slice a np cap := by obtain ⟨a, _, _, cap, e, _⟩ := hpv; exact ⟨a, cap, e⟩
  clear hG hpv hlen
  go_enter Try.func14, Try.ntmps14
  go_wp2_with fail
  refine wp_world_named fun W0 hW => ?_
  have hb : Below w.heap.size w W0 := by rw [hW]; (repeat' (first | assumption | exact Below.refl _ _ | refine below_then ?_ (by assumption) | refine below_al ?_ _ | refine below_dr ?_ | refine below_sc ?_ (by simp <;> omega) _))
  clear hW
  refine (asked_walk G (.slice a G.n cap) sh (.slice pa np pc) np len fp W0 ((HG.out.1.below hb).mono hb.size) hm ((HG.out.2.1.below hb).mono hb.size) HG.out.2.2 hnp).mono ?_
  rintro e W1 ⟨hb1, h1⟩
  have hbw := hb.trans (hb1.mono hb.size)
  rcases h1.out with ⟨c, hc, rfl, he⟩ | ⟨Cv, B', X, mb, bv, vv, ev, tv, lv, dB, rB, rfl, he, -⟩
  · have HE := Lib.hid (And.intro hbw he)
    clear hb hb1 h1 hbw he hc
    go_wp2
    go_ret
    exact ⟨HE.out.1, _, rfl, HE.out.2⟩
  · have HE := Lib.hid (And.intro hbw he)
    clear hb hb1 h1 hbw he
    go_wp2
    go_ret
    exact ⟨HE.out.1, _, rfl, HE.out.2⟩
set_option maxRecDepth 100000 in
set_option maxHeartbeats 1000000 in
theorem coverMake_walk : Calls Try.prog 11 #[.agg #[v], .agg #[.int .i64 sh, pv]] w fun e w' => Below w.heap.size w w' ∧ ∃ c u, e = .returned (.tuple #[.agg #[u], .int .i64 c]) ∧ AskedErr G sh np len fp c ∧
    ((c ≠ 0 ∧ u = .slice none 0 0) ∨ (c = 0 ∧ CovOK G sh np len fp ∧ GlAt w'.heap.size w' u (covG G fp (fun k => invP (fp k) sh.toNat) sh.toNat))) := by
  have HG := Lib.hid (And.intro hG (And.intro hpv hlen))
  obtain ⟨a, cap, rfl⟩ : ∃ a cap, v = .slice a G.n cap := by obtain ⟨a, _, _, cap, e, _⟩ := hG; exact ⟨a, cap, e⟩
  obtain ⟨pa, pc, rfl⟩ : ∃ a cap, pv = .slice a np cap := by obtain ⟨a, _, _, cap, e, _⟩ := hpv; exact ⟨a, cap, e⟩
  clear hG hpv hlen
  generalize hN : w.heap.size = N at *
  go_enter Try.func11, Try.ntmps11
  go_wp2_with fail
  refine wp_world_named fun W0 hW => ?_
  have h0 : Below N w W0 ∧ W0.cell? ⟨N + 1 + 1, 0, none⟩ = some (.slice none 0 0) ∧ W0.frozen? ⟨N + 1 + 1, 0, none⟩ = false ∧ W0.heap.size = N + 3 := by
    rw [hW]
    subst hN
    exact ⟨by (repeat' (first | assumption | exact Below.refl _ _ | refine below_then ?_ (by assumption) | refine below_al ?_ _ | refine below_dr ?_ | refine below_sc ?_ (by simp <;> omega) _)), by simp [go_sem], by simp [go_sem], by simp⟩
  clear hW
  have hb := h0.1
  have hz0 := h0.2.2.2
  have HNN := Lib.hid hN
  refine (asked_walk G (.slice a G.n cap) sh (.slice pa np pc) np len fp W0 ((HG.out.1.below hb).mono (by omega)) hm ((HG.out.2.1.below hb).mono (by omega)) HG.out.2.2 hnp).mono ?_
  rintro e W1 ⟨hb1, h1⟩
  have hbw := hb.trans (hb1.mono (by omega))
  have hs1 := hb1.size
  have y0 := (hb1.cell (p := ⟨N + 1 + 1, 0, none⟩) (by show N + 1 + 1 < _; omega)).trans h0.2.1
  have z0 := (hb1.frozen (p := ⟨N + 1 + 1, 0, none⟩) (by show N + 1 + 1 < _; omega)).trans h0.2.2.1
  clear hN hz0 h0
  rcases h1.out with ⟨c, hc, rfl, he⟩ | ⟨Cv, B', X, mb, bv, vv, ev, tv, lv, dB, rB, rfl, he, hok, hcov, hCV⟩
  · have HE := Lib.hid (And.intro hbw (And.intro he hc))
    have q1 : (c != 0) = true := by simpa using hc
    clear hb hb1 h1 hbw he hc
    go_wp2
    exact bodyPost_ret (v := .tuple #[.agg #[.slice none 0 0], .int .i64 c]) (by simp [results, Try.results11, go_sem, *]) rfl ⟨HE.out.1.setCell (by show N ≤ N + 1 + 1; omega) _, c, _, rfl, HE.out.2.1, .inl ⟨HE.out.2.2, rfl⟩⟩
  · have hNs : N ≤ W1.heap.size := by have := hb.size; have := HNN.out; omega
    have h45 := gluing_walk hok hCV (Nat.le_refl _) ((HG.out.1.below hbw).mono hNs) hcov.range hcov.irange (by have := hcov.small.1; omega) hcov.small.2
    have HE := Lib.hid (And.intro hbw (And.intro he (And.intro hcov h45)))
    clear hb hb1 h1 hbw he hok hcov hCV h45
    go_wp2_with fail
    refine HE.out.2.2.2.mono ?_
    rintro e W2 ⟨u, rfl, hgl, hb2⟩
    have y2 := (hb2.cell (p := ⟨N + 1 + 1, 0, none⟩) (lt_of_cell y0)).trans y0
    have z2 := (hb2.frozen (p := ⟨N + 1 + 1, 0, none⟩) (lt_of_cell y0)).trans z0
    obtain ⟨ga, gc, rfl⟩ : ∃ ga gc, u = .slice ga (covG G fp (fun k => invP (fp k) sh.toNat) sh.toNat).n gc := by obtain ⟨a, _, _, cap, e, _⟩ := hgl; exact ⟨a, cap, e⟩
    obtain ⟨H, hH⟩ : ∃ H, H = covG G fp (fun k => invP (fp k) sh.toNat) sh.toNat := ⟨_, rfl⟩
    rw [← hH] at hgl ⊢
    have H2 := Lib.hid (And.intro hgl (And.intro hb2 (And.intro hH y2)))
    clear hgl hb2 hH y0 z0
    go_wp2
    refine bodyPost_ret (v := .tuple #[.agg #[.slice ga H.n gc], .int .i64 0]) (by simp [results, Try.results11, go_sem, *]) rfl ⟨(HE.out.1.trans (H2.out.2.1.mono hNs)).setCell (by show N ≤ N + 1 + 1; omega) _, 0, _, rfl, HE.out.2.1, .inr ⟨rfl, HE.out.2.2.1, ?_⟩⟩
    rw [← H2.out.2.2.1, World.size_setCell]
    exact H2.out.1.setSlot H2.out.2.2.2 _
end
end Go.Proofs.Ytlckpgahijlmoaa
namespace Go.Proofs.Ytlckpgahijlmoaa
open Go.RowKit Go.Shelf Go.Maps

/-- asked's answer, in one shape -/
theorem AskedAns.one {G : Gl} {v : Value} {sh : Int} {pv : Value} {np : Nat} {len : Nat → Nat} {fp : Nat → Nat → Int} {e : Ending} {w' : World} (h : AskedAns G v sh pv np len fp e w') :
    ∃ pt c, e = .returned (.tuple #[pt, .int .i64 c]) ∧ (c ≠ 0 ∨ (c = 0 ∧ checkB G = true ∧ CovOK G sh np len fp ∧ ∃ Cv B' X mb bv vv ev tv lv dB rB, pt = .pointer (some ⟨Cv, 0, none⟩) ∧ CV w' w'.heap.size Cv B' X mb v pv bv G vv ev tv lv dB rB sh.toNat fp (fun k => invP (fp k) sh.toNat))) := by
  rcases h.out with ⟨c, h1, h2, _⟩ | ⟨Cv, B', X, mb, bv, vv, ev, tv, lv, dB, rB, h1, _, h3, h4, h5⟩
  · exact ⟨_, c, h2, .inl h1⟩
  · exact ⟨_, 0, h1, .inr ⟨rfl, h3, h4, Cv, B', X, mb, bv, vv, ev, tv, lv, dB, rB, rfl, h5⟩⟩

/-- a covering's cells at D, its lists of S numbers each under way -/
structure CZ (W0 W : World) (D S k : Nat) (uv : Value) (xs : List Value) : Prop where
  own : W.ownsRow (D + 1) 35 1 uv k xs
  row : ∀ j, j < k → ∃ d f, xs[j]? = some (.slice (some ⟨d, 0, none⟩) S S) ∧ D < d ∧ uv.ownBlock ≠ some d ∧ IntRow W d S f
  d0 : W.cell? ⟨D, 0, none⟩ = some (.int .i64 (S : Int))
  d1 : W.cell? ⟨D, 1, none⟩ = some uv
  f1 : W.frozen? ⟨D, 1, none⟩ = false
  bel : Below D W0 W
theorem CZ.kept {W0 W W' : World} {D S k : Nat} {uv : Value} {xs : List Value} (h : CZ W0 W D S k uv xs) (hg : W.grownBy W' none) : CZ W0 W' D S k uv xs := by
  refine ⟨h.own.kept hg (by cases uv.ownBlock <;> simp), fun j hj => ?_, hg.cell h.d0 (by simp), hg.cell h.d1 (by simp), (hg.frozen_far ⟨D, 1, none⟩ (lt_of_cell h.d1) (by simp)).trans h.f1, h.bel.grown hg (by have := lt_of_cell h.d0; simp only at this; omega) (fun r e => by cases e)⟩
  obtain ⟨d, f, e1, e2, e3, e4⟩ := h.row j hj
  exact ⟨d, f, e1, e2, e3, rowIs_kept e4 hg (by simp)⟩
theorem CZ.ne {W0 W : World} {D S k : Nat} {uv : Value} {xs : List Value} (h : CZ W0 W D S k uv xs) : some D ≠ uv.ownBlock := fun e => by
  have := (h.own.lt D e.symm).1; omega
theorem CZ.push {W0 W W2 w2 : World} {D S k d g gc : Nat} {uv : Value} {xs : List Value} {f : Nat → Int} (h : CZ W0 W D S k uv xs) (hg : W.grownBy W2 none) (hd : W.heap.size ≤ d) (hrow : IntRow W2 d S f)
    (hown : w2.ownsRow (D + 1) 35 1 (.slice (some ⟨g, 0, none⟩) (k + 1) gc) (k + 1) (xs ++ [.slice (some ⟨d, 0, none⟩) S S])) (hgrow : W2.grownBy w2 uv.ownBlock) (hat : uv.ownBlock = some g ∨ g = W2.heap.size) :
    CZ W0 (w2.setCell ⟨D, 1, none⟩ (.slice (some ⟨g, 0, none⟩) (k + 1) gc)) D S (k + 1) (.slice (some ⟨g, 0, none⟩) (k + 1) gc) (xs ++ [.slice (some ⟨d, 0, none⟩) S S]) := by
  have h1 := h.kept hg
  have hDl := lt_of_cell h.d0
  simp only at hDl
  have hxl := h.own.1
  have hs2 := hg.size
  have hsc := grownBy_setCell w2 D 1 (.slice (some ⟨g, 0, none⟩) (k + 1) gc)
  have hob : ∀ j, uv.ownBlock = some j → D + 1 ≤ j ∧ j < W.heap.size := fun j hj => h.own.lt j hj
  have hgD : g ≠ D := fun e => by
    rcases hat with q | q
    · have := (hob g q).1; omega
    · omega
  refine ⟨hown.kept hsc (.inr (by simp only [Value.ownBlock, ne_eq, Option.some.injEq]; exact hgD)), fun j hj => ?_, ?_, World.cell?_setCell_same _ _ _ (hgrow.cell h1.d1 h.ne), ?_, ?_⟩
  · by_cases e : j = k
    · subst e
      refine ⟨d, f, by rw [List.getElem?_append_right (by omega), show j - xs.length = 0 by omega]; rfl, by omega, ?_, ?_⟩
      · have hdl := hrow.lt
        simp only [Value.ownBlock, ne_eq, Option.some.injEq]
        intro q
        rcases hat with z | z
        · subst q; have := (hob _ z).2; omega
        · omega
      · exact rowIs_kept (rowIs_kept hrow hgrow (fun q => by have := (hob d q.symm).2; omega)) hsc (by simp; omega)
    · obtain ⟨d', f', e1, e2, e3, e4⟩ := h1.row j (by omega)
      obtain ⟨d2, f2, q1, q2, q3, q4⟩ := h.row j (by omega)
      have hdd : d2 = d' := by rw [e1] at q1; injection q1 with q1; injection q1 with q1; injection q1 with q1; injection q1 with q1; exact q1.symm
      refine ⟨d', f', by rw [List.getElem?_append_left (by omega)]; exact e1, e2, ?_, ?_⟩
      · simp only [Value.ownBlock, ne_eq, Option.some.injEq]
        intro q
        rcases hat with z | z
        · subst q; exact e3 z
        · have := q4.lt; omega
      · exact rowIs_kept (rowIs_kept e4 hgrow (fun q => e3 q.symm)) hsc (by simp; omega)
  · exact (World.cell?_setCell_other (a := ⟨D, 1, none⟩) (b := ⟨D, 0, none⟩) _ _ (by simp)).trans (hgrow.cell h1.d0 h.ne)
  · rw [World.frozen?_setCell]; exact (hgrow.frozen_far ⟨D, 1, none⟩ (lt_of_cell h1.d1) h.ne).trans h1.f1
  · exact (h1.bel.grown hgrow (by omega) (fun r e => by have := (hob r e).1; omega)).setCell (by show D ≤ D; omega) _
/-- a number is stored into a list -/
theorem CZ.store {W0 W : World} {D S k j d i : Nat} {uv : Value} {xs : List Value} (h : CZ W0 W D S k uv xs) (hj : j < k) (hx : xs[j]? = some (.slice (some ⟨d, 0, none⟩) S S)) (x : Int) : CZ W0 (W.setCell ⟨d, i, none⟩ (.int .i64 x)) D S k uv xs := by
  obtain ⟨d', f', e1, e2, e3, e4⟩ := h.row j hj
  obtain rfl : d = d' := by rw [hx] at e1; injection e1 with q1; injection q1 with q1; injection q1 with q1; injection q1 with q1
  have hsc := grownBy_setCell W d i (.int .i64 x)
  have hne : some D ≠ some d := by simp; omega
  refine ⟨h.own.kept hsc (.inr e3), fun l hl => ?_, hsc.cell h.d0 hne, hsc.cell h.d1 hne, (hsc.frozen_far ⟨D, 1, none⟩ (lt_of_cell h.d1) hne).trans h.f1, h.bel.setCell (by show D ≤ d; omega) _⟩
  obtain ⟨d2, f2, q1, q2, q3, q4⟩ := h.row l hl
  by_cases e : d2 = d
  · subst e
    exact ⟨d2, _, q1, q2, q3, (q4.set i _).congr (g := fun a => Value.int .i64 (if a = i then x else f2 a)) (fun a _ => by by_cases e : a = i <;> simp [e])⟩
  · exact ⟨d2, f2, q1, q2, q3, rowIs_kept q4 hsc (by simp; omega)⟩
/-- the blocks of the lists lie below R -/
structure CZH (R : Nat) (uv : Value) (xs : List Value) (S : Nat) : Prop where
  own : ∀ b, uv.ownBlock = some b → b < R
  row : ∀ (j d : Nat), xs[j]? = some (Value.slice (some ⟨d, 0, none⟩) S S) → d < R
theorem CZ.high {W0 W : World} {D S k : Nat} {uv : Value} {xs : List Value} (h : CZ W0 W D S k uv xs) : CZH W.heap.size uv xs S :=
  ⟨fun b hb => (h.own.lt b hb).2, fun j d hx => by
    have hl := (List.getElem?_eq_some_iff.1 hx).1
    rw [h.own.1] at hl
    obtain ⟨d', f', e1, _, _, e4⟩ := h.row j (by omega)
    obtain rfl : d = d' := by rw [hx] at e1; injection e1 with q1; injection q1 with q1; injection q1 with q1; injection q1 with q1
    exact e4.lt⟩
theorem CZ.keptR {W0 W W' : World} {D S k R : Nat} {uv : Value} {xs : List Value} (h : CZ W0 W D S k uv xs) (hh : CZH R uv xs S) (hD : D < R) (hg : W.grownBy W' (some R)) : CZ W0 W' D S k uv xs := by
  have hne : some D ≠ some R := by simp; omega
  refine ⟨h.own.kept hg (.inr (fun e => by have := hh.own _ e; omega)), fun j hj => ?_, hg.cell h.d0 hne, hg.cell h.d1 hne, (hg.frozen_far ⟨D, 1, none⟩ (lt_of_cell h.d1) hne).trans h.f1, h.bel.grown hg (by have := lt_of_cell h.d0; simp only at this; omega) (fun r e => by cases e; omega)⟩
  obtain ⟨d, f, e1, e2, e3, e4⟩ := h.row j hj
  exact ⟨d, f, e1, e2, e3, rowIs_kept e4 hg (by have := hh.row _ _ e1; simp; omega)⟩
/-- the cell of a list -/
theorem CZ.at {W0 W : World} {D S k j : Nat} {uv : Value} {xs : List Value} (h : CZ W0 W D S k uv xs) (hj : j < k) : ∃ g gc d f, uv = .slice (some ⟨g, 0, none⟩) k gc ∧ W.cell? ⟨g, j, none⟩ = some (.slice (some ⟨d, 0, none⟩) S S) ∧ xs[j]? = some (.slice (some ⟨d, 0, none⟩) S S) ∧ D < d ∧ IntRow W d S f := by
  obtain ⟨d, f, e1, e2, e3, e4⟩ := h.row j hj
  obtain ⟨g, gc, hv, _⟩ := h.own.form (by omega)
  subst hv
  refine ⟨g, gc, d, f, rfl, ?_, e1, e2, e4⟩
  have := h.own.cells (g := g) rfl j _ e1
  rwa [Addr.add_mid, Nat.zero_add] at this
/-- inside a round of the range: the lists, the range under way, the place at A -/
structure ZL (W0 W : World) (D S k R A mb nn cnt : Nat) (uv : Value) (xs : List Value) (dd : Nat × Nat → Option Nat) (left : Nat × Nat → Bool) (t f : Nat) : Prop where
  z : CZ W0 W D S k uv xs
  m : MapR W okp kp vi mb R nn dd left cnt
  a0 : W.cell? ⟨A, 0, none⟩ = some (.int .i64 (t : Int))
  a1 : W.cell? ⟨A, 1, none⟩ = some (.int .i64 (f : Int))
theorem ZL.kept {W0 W W' : World} {D S k R A mb nn cnt : Nat} {uv : Value} {xs : List Value} {dd : Nat × Nat → Option Nat} {left : Nat × Nat → Bool} {t f : Nat} (h : ZL W0 W D S k R A mb nn cnt uv xs dd left t f) (hg : W.grownBy W' none) : ZL W0 W' D S k R A mb nn cnt uv xs dd left t f :=
  ⟨h.z.kept hg, h.m.kept hg (by simp) (by simp), hg.cell h.a0 (by simp), hg.cell h.a1 (by simp)⟩
theorem ZL.store {W0 W : World} {D S k R A mb nn cnt : Nat} {uv : Value} {xs : List Value} {dd : Nat × Nat → Option Nat} {left : Nat × Nat → Bool} {t f j d i : Nat} (h : ZL W0 W D S k R A mb nn cnt uv xs dd left t f) (hh : CZH R uv xs S) (hR : R ≤ A) (hmb : mb < D) (hj : j < k) (hx : xs[j]? = some (.slice (some ⟨d, 0, none⟩) S S)) (hD : D < d) (x : Int) :
    ZL W0 (W.setCell ⟨d, i, none⟩ (.int .i64 x)) D S k R A mb nn cnt uv xs dd left t f := by
  have hd := hh.row _ _ hx
  have hsc := grownBy_setCell W d i (.int .i64 x)
  exact ⟨h.z.store hj hx x, h.m.kept hsc (by simp; omega) (by simp; omega), hsc.cell h.a0 (by simp; omega), hsc.cell h.a1 (by simp; omega)⟩
end Go.Proofs.Ytlckpgahijlmoaa
