/- R01.Inverse of a permutation. -/
import Derived.Test.YtlckpgahijlmoaaQ20
import Derived.Great.Walk
import Derived.Test.YtlckpgahijlmoaaQ18
/- cover's gluing: the walk. -/
namespace Go.Proofs.Ytlckpgahijlmoaa
open Go.RowKit Go.Shelf Go.Maps

theorem built88 (H : Gl) (k : Nat) : Try.prog.builtSlice 88 1 [(0, .agg (rowA H k))] = some (rowA H k) := by kernel_rfl
theorem fold88 (H : Gl) (k : Nat) : Array.foldl (fun (cs : Array Value) (x : Value × Nat) => cs.setIfInBounds x.snd x.fst) #[.int .i64 0, .int .i64 0, .int .i64 0, .int .i64 0, .int .i64 0, .int .i64 0, .int .i64 0, .int .i64 0, .int .i64 0, .int .i64 0, .int .i64 0, .int .i64 0, .int .i64 0, .int .i64 0, .int .i64 0, .int .i64 0, .int .i64 0, .int .i64 0, .int .i64 0, .int .i64 0] (rowA H k).zipIdx 0 (rowA H k).size = rowA H k := by kernel_rfl
theorem GO.alloc {W : World} {N : Nat} {uv : Value} {k : Nat} {xs : List Value} (h : GO W N uv k xs) (o : Obj) : GO (W.alloc o) N uv k xs := h.kept (World.grownBy_alloc W o none) (by simp) (by simp) (.inl rfl)
theorem RowCells.alloc {W : World} {b o t : Nat} {G : Gl} (h : RowCells W b o G t) (ob : Obj) : RowCells (W.alloc ob) b o G t := h.kept (World.grownBy_alloc W ob none) (by simp)
theorem own_lt_size {w : World} {base : Nat} {e : TypeId} {size : Nat} {v : Value} {n : Nat} {xs : List Value} (h : w.ownsRow base e size v n xs) {g : Nat} (hg : v.ownBlock = some g) : g < w.heap.size := by
  rcases h.2 with ⟨rfl, _⟩ | ⟨g', cap, cur, rfl, _, hb, _⟩
  · cases hg
  · cases hg
    exact (Array.getElem?_eq_some_iff.1 hb).1
theorem RowCells.covered {W : World} {b o t s sh : Nat} {G : Gl} {f g : Nat → Nat → Int} (ht : t < G.n) (h : RowCells W b o (mixG G (fun k => (covG G f g sh).tet (4 * (s * G.n) + k)) 4) t) : RowCells W b o (covG G f g sh) (s * G.n + t) := by
  intro j hj
  rw [← mix_all G f g sh s t ht]; exact h j hj
theorem own_ge {w : World} {base : Nat} {e : TypeId} {size : Nat} {v : Value} {n : Nat} {xs : List Value} (h : w.ownsRow base e size v n xs) {g : Nat} (hg : v.ownBlock = some g) : base ≤ g := by
  rcases h.2 with ⟨rfl, _⟩ | ⟨g', cap, cur, rfl, hb, _⟩
  · cases hg
  · cases hg
    exact hb
/-- what is kept while a row is turned -/
structure TR (wr w : World) (N D t m k : Nat) (uv : Value) (G : Gl) (X : Nat → Int) (xs : List Value) : Prop where
  row : RowCells wr D 0 (mixG G X m) t
  go : GO wr N uv k xs
  bel : Below N w wr
  ne : uv.ownBlock ≠ some D
  fr : ∀ j, wr.frozen? ⟨D, j, none⟩ = false
  lt : D < wr.heap.size
  le : N ≤ D
  ne1 : D ≠ N
  ne2 : D ≠ N + 1
theorem TR.below {wr w w' : World} {N D t m k : Nat} {uv : Value} {G : Gl} {X : Nat → Int} {xs : List Value} (h : TR wr w N D t m k uv G X xs) (hb : Below wr.heap.size wr w') : TR w' w N D t m k uv G X xs := by
  have hg := below_grown hb (Nat.le_refl _) none
  have hs := hb.size
  have hn := h.bel.size
  have := h.lt
  have := h.le
  exact ⟨h.row.kept hg (by simp), h.go.kept hg (by simp) (by simp) (.inl rfl), h.bel.trans (hb.mono (by omega)), h.ne, fun j => (hg.frozen_far ⟨D, j, none⟩ h.lt (by simp)).trans (h.fr j), by omega, h.le, h.ne1, h.ne2⟩
theorem TR.cellAt {wr w : World} {N D t m k : Nat} {uv : Value} {G : Gl} {X : Nat → Int} {xs : List Value} (h : TR wr w N D t m k uv G X xs) (hm : m < 4) : ∃ v, wr.cell? ⟨D, m * 5, none⟩ = some v := by
  have h1 := h.row (m * 5) (by omega)
  have hs : (rowA (mixG G X m) t).size = 20 := rfl
  rw [Array.getElem?_eq_getElem (by omega), Nat.zero_add] at h1
  exact ⟨_, h1⟩
theorem TR.turn {wr w : World} {N D t m k : Nat} {uv : Value} {G : Gl} {X : Nat → Int} {xs : List Value} (hm : m < 4) (h : TR wr w N D t m k uv G X xs) : TR (wr.setCell ⟨D, m * 5, none⟩ (.int .i64 (X (4 * t + m)))) w N D t (m + 1) k uv G X xs := by
  have hg := grownBy_setCell wr D (m * 5) (.int .i64 (X (4 * t + m)))
  exact ⟨h.row.turn hm, h.go.kept hg (by simpa using fun e => h.ne1 e) (by simpa using fun e => h.ne2 e) (.inr h.ne), h.bel.setCell (by exact h.le) _, h.ne, fun j => by rw [World.frozen?_setCell]; exact h.fr j, by simpa using h.lt, h.le, h.ne1, h.ne2⟩
theorem TR.skipF {wr w : World} {N D t m k : Nat} {uv : Value} {G : Gl} {X : Nat → Int} {xs : List Value} (hm : m < 4) (hX : X (4 * t + m) = G.tet (4 * t + m)) (h : TR wr w N D t m k uv G X xs) : TR wr w N D t (m + 1) k uv G X xs :=
  ⟨h.row.skipF hm hX, h.go, h.bel, h.ne, h.fr, h.lt, h.le, h.ne1, h.ne2⟩

set_option maxRecDepth 100000 in
set_option maxHeartbeats 1000000 in
theorem gluing_walk {G : Gl} (hok : checkB G = true) {w : World} {B Cv B' X mb : Nat} {v pv bv : Value} {vv ev tv lv : Value} {dB rB sh : Nat} {f g : Nat → Nat → Int} (h : CV w B Cv B' X mb v pv bv G vv ev tv lv dB rB sh f g) (hB : B ≤ w.heap.size) (hG : GlAt w.heap.size w v G)
    (hf : ∀ k, k < nF G → ∀ i, i < sh → 0 ≤ f k i ∧ f k i < sh) (hg : ∀ k, k < nF G → ∀ i, i < sh → 0 ≤ g k i ∧ g k i < sh) (hsh : sh ≤ 1000) (hsn : sh * G.n ≤ 1000) :
    Calls Try.prog 45 #[.pointer (some ⟨Cv, 0, none⟩)] w fun e w' => ∃ u, e = .returned (.agg #[u]) ∧ GlAt w'.heap.size w' u (covG G f g sh) ∧ Below w.heap.size w w' := by
  have hn : G.n ≤ 1000 := by simp only [checkB, Bool.and_eq_true, decide_eq_true_eq] at hok; exact hok.1
  have hs0 := h.sp.c0
  have hc0 := h.c0
  have hc1 := h.c1
  have HC := Lib.hid (And.intro h (And.intro hok (And.intro hf hg))); clear h hok hf hg
  have HG := Lib.hid hG
  obtain ⟨a, b, off, cap, rfl, hga, hgc⟩ := hG
  have HGC := Lib.hid (And.intro hga hgc); clear hga hgc
  have hs0a := cell_al hs0
  have hc0a := cell_al hc0
  have hc1a := cell_al hc1
  have hs0b := fun o o2 => cell_al (cell_al hs0 o) o2
  have hc0b := fun o o2 => cell_al (cell_al hc0 o) o2
  have hc1b := fun o o2 => cell_al (cell_al hc1 o) o2
  go_enter Try.func45, Try.ntmps45
  go_wp2
  refine wp_named fun W1 hW => ?_
  have h1 : GO W1 w.heap.size (.slice none 0 0) 0 (gpre (covG G f g sh) 0) ∧ Below w.heap.size w W1 := by
    rw [hW]; exact ⟨⟨by simp [go_sem], by simp [go_sem], by simp [go_sem], by simp [go_sem], World.ownsRow_nil _ _ _ _, by simp [Value.ownBlock], by simp [Value.ownBlock]⟩, by (repeat' (first | assumption | exact Below.refl _ _ | refine below_then ?_ (by assumption) | refine below_al ?_ _ | refine below_dr ?_ | refine below_sc ?_ (by simp <;> omega) _))⟩
  clear hW hs0a hc0a hc1a hs0b hc0b hc1b
  generalize hN : w.heap.size = N at *
  have H1 := Lib.hid h1; clear h1
  go_loopw [24] (fun i wr => ∃ (s : Nat) (uv : Value), s ≤ sh ∧ i = .int .i64 s ∧ GO wr N uv (s * G.n) (gpre (covG G f g sh) (s * G.n)) ∧ Below N w wr) (fun i _ => sh - (intOf i).toNat)
  case atStart => exact ⟨0, _, by omega, rfl, by rw [Nat.zero_mul]; exact H1.out.1, H1.out.2⟩
  case round =>
    clear H1
    obtain ⟨s, uv, hs, rfl, hGO, hb⟩ := hrel
    have HK := Lib.hid (And.intro hGO hb)
    rcases Nat.lt_or_ge s sh with hss | hss
    · have hbN : ∀ (bl o : Nat) (x : Value), w.cell? ⟨bl, o, none⟩ = some x → wr.cell? ⟨bl, o, none⟩ = some x := fun bl o x hx => (hb.cell (p := ⟨bl, o, none⟩) (by have := lt_of_cell hx; simp only at this; show bl < N; omega)).trans hx
      have x0 := hbN _ _ _ hc0
      have x1 := hbN _ _ _ hs0
      clear hGO hb hbN
      go_wp2
      go_loopw [36] (fun i wr => ∃ (t : Nat) (uv : Value), t ≤ G.n ∧ i = .int .i64 t ∧ GO wr N uv (s * G.n + t) (gpre (covG G f g sh) (s * G.n + t)) ∧ Below N w wr) (fun i _ => G.n - (intOf i).toNat)
      case atStart => exact ⟨0, _, by omega, rfl, HK.out.1, HK.out.2⟩
      case round =>
        clear HK x0 x1
        obtain ⟨t, uv, ht, rfl, hGO, hb⟩ := hrel
        have HK := Lib.hid (And.intro hGO hb)
        rcases Nat.lt_or_ge t G.n with htn | htn
        · obtain ⟨hga, hgc⟩ := HGC.out
          obtain ⟨rfl, hbB⟩ := hga (by omega)
          have hrow := rowCells (W := wr) (b := b) (off := off) (fun k hk => ⟨(hb.cell (p := ⟨b, _, none⟩) (by show b < N; omega)).trans (hgc k hk).1, fun i hi => (hb.cell (p := ⟨b, _, none⟩) (by show b < N; omega)).trans ((hgc k hk).2 i hi)⟩) t htn
          have hrg := hrow.range
          have t0 : 0 ≤ (t : Int) := by omega
          have tn : (t : Int) < (G.n : Int) := by omega
          clear hGO hb hga hgc hrow
          go_wp2_with (first | (refine wpList_load_row' rfl 88 (.tmp 39) rfl b (off + t * 20) rfl (rowA G t) _ hrg Try.underlying88 rfl (by kernel_rfl) ?_) | (refine wpList_store_new (w := wr) rfl 88 (.tmp 7) (.tmp 40) rfl _ (rowA G t) rfl rfl (by kernel_rfl) rfl (rowA_one G t) ?_) | (refine wpList_load_new (w := wr) rfl 88 (.tmp 7) rfl (rowA G t) 4 87 rfl Try.underlying88 (by kernel_rfl) ?_))
          refine wp_named fun W3 hW3 => ?_
          obtain ⟨D, hD⟩ : ∃ D, D = wr.heap.size := ⟨_, rfl⟩
          have h3 : TR W3 w N D t 0 (s * G.n + t) uv G (fun k => (covG G f g sh).tet (4 * (s * G.n) + k)) (gpre (covG G f g sh) (s * G.n + t)) := by
            have hs := HK.out.2.size
            have hl := lt_of_cell HK.out.1.c4
            simp only at hl
            subst hW3
            refine ⟨?_, HK.out.1.alloc _, HK.out.2.alloc (by omega) _, ?_, fun j => ?_, by rw [hD]; simp, by omega, by omega, by omega⟩
            · intro j hj; rw [mix_zero, hD, Nat.zero_add]; exact World.cell?_alloc_at _ _ _ _ rfl
            · rw [hD]; intro e; have := own_lt_size HK.out.1.own e; omega
            · exact World.frozen?_alloc_at _ _ _ _ hD
          rw [← hD]
          have H3 := Lib.hid h3; clear h3 hW3 HK hD
          go_loopw [42] (fun i wr => ∃ m : Nat, m ≤ 4 ∧ i = .int .i64 m ∧ TR wr w N D t m (s * G.n + t) uv G (fun k => (covG G f g sh).tet (4 * (s * G.n) + k)) (gpre (covG G f g sh) (s * G.n + t))) (fun i _ => 4 - (intOf i).toNat)
          case atStart => exact ⟨0, by omega, rfl, H3.out⟩
          case round =>
            clear H3
            obtain ⟨m, hm, rfl, hR⟩ := hrel
            have HK := Lib.hid hR
            clear hR
            rcases Nat.lt_or_ge m 4 with hm4 | hm4
            · have hix := fun w => row_index G t m hm4 w
              unfold faceA at hix
              have hcov := covG_at G f g sh s t m htn hm4
              have e4 : 4 * (s * G.n) + (4 * t + m) = 4 * (s * G.n + t) + m := by omega
              by_cases hneg : G.tet (4 * t + m) < 0
              · have HX := Lib.hid (show (covG G f g sh).tet (4 * (s * G.n) + (4 * t + m)) = G.tet (4 * t + m) by rw [e4, hcov.1, if_pos hneg])
                clear hcov e4
                generalize hT : G.tet (4 * t + m) = T at *
                have HT := Lib.hid hT; clear hT
                go_wp2
                go_roundw
                case rel =>
                  refine ⟨m + 1, by omega, rfl, ?_⟩
                  exact (HK.out.skipF hm4 (by show _ = _; rw [HX.out, HT.out])).below ((Below.refl _ _).alloc (Nat.le_refl _) _)
                case measure => simp [intOf]; omega
              · obtain ⟨hCV, hok, hf, hg⟩ := HC.out
                have hk := fN_lt hok (show 4 * t + m < 4 * G.n by omega)
                have hcr : 0 ≤ crF G f g t m s ∧ crF G f g t m s < sh := by
                  have h1 := hf _ hk s hss
                  have h2 := hg _ hk s hss
                  unfold crF; split
                  · exact h1
                  · exact h2
                obtain ⟨tl, tl2, _⟩ := ok_face hok (show 4 * t + m < 4 * G.n by omega) hneg
                obtain ⟨σ, hσ⟩ : ∃ σ : Nat, crF G f g t m s = σ := ⟨(crF G f g t m s).toNat, by omega⟩
                have HS := Lib.hid hσ
                obtain ⟨T, hT, hTn⟩ : ∃ T : Nat, G.tet (4 * t + m) = T ∧ T < G.n := ⟨_, tl, tl2⟩
                have hσs : σ < sh := by omega
                have hpn : σ * G.n ≤ sh * G.n := Nat.mul_le_mul_right _ (by omega)
                have HX := Lib.hid (show (covG G f g sh).tet (4 * (s * G.n) + (4 * t + m)) = ((σ * G.n + T : Nat) : Int) by rw [e4, hcov.1, if_neg hneg, hσ, hT]; push_cast; rfl)
                obtain ⟨PP, hPP⟩ : ∃ PP : Nat, PP = σ * G.n := ⟨_, rfl⟩
                obtain ⟨RR, hRR⟩ : ∃ RR : Nat, RR = PP + T := ⟨_, rfl⟩
                rw [← hPP, ← hRR] at HX
                have q1 : IntKind.i64.wrap ((σ : Int) * (G.n : Int)) = (PP : Int) := by rw [hPP]; rw [IntWalk.i64_in _ (by push_cast at *; omega)]; push_cast; rfl
                have q2 : IntKind.i64.wrap ((PP : Int) + (T : Int)) = (RR : Int) := by rw [IntWalk.i64_in _ (by omega)]; omega
                have hTi := Lib.hid hT
                rw [hT] at hix
                have T0 : 0 ≤ (T : Int) := by omega
                obtain ⟨E, hE⟩ : ∃ E, E = wr.heap.size := ⟨_, rfl⟩
                have hlt := HK.out.lt
                have hW4 : ∀ ob, TR (wr.alloc ob) w N D t m (s * G.n + t) uv G (fun k => (covG G f g sh).tet (4 * (s * G.n) + k)) (gpre (covG G f g sh) (s * G.n + t)) := fun ob => HK.out.below ((Below.refl _ _).alloc (Nat.le_refl _) _)
                have H4 := Lib.hid hW4
                have c0w := fun ob => (below_dr (hW4 ob).bel).cell (p := ⟨Cv, 0, none⟩) (by have := lt_of_cell hc0; simp only at this; show Cv < N; omega)
                clear hW4 hcov e4 hneg hCV hf hg hk hcr tl tl2 hT hpn hPP hRR hok hσ
                go_wp2
                refine wp_named fun W4 hW => ?_
                have tr : TR W4 w N D t m (s * G.n + t) uv G (fun k => (covG G f g sh).tet (4 * (s * G.n) + k)) (gpre (covG G f g sh) (s * G.n + t)) := by rw [hW]; exact H4.out _
                have cE : W4.cell? ⟨E, 0, none⟩ = some (.int .i64 (T : Int)) := by rw [hW]; exact World.cell?_alloc_at _ _ _ _ hE
                have hED : E ≠ D := by omega
                rw [← hE]
                have trd := tr.below (below_dr (Below.refl _ _))
                have cEd : W4.drew.cell? ⟨E, 0, none⟩ = some (.int .i64 (T : Int)) := cE
                have hEl := lt_of_cell cE
                simp only at hEl
                have HD := Lib.hid trd
                have m0 : 0 ≤ (m : Int) := by omega
                have m4 : (m : Int) < 4 := by omega
                clear H4 hW c0w trd tr hE hlt cE hix HK
                have hC := cross_walk HC.out.2.1 (HC.out.1.below (by omega) (hN ▸ HD.out.bel)) t m s htn hm4 hss
                rw [HS.out] at hC
                have hC56 := Lib.hid hC; clear hC
                go_region_held3 (fun w' => w'.cell? ⟨E, 0, none⟩ = some (.int .i64 (T : Int)))
                  (first
                    | exact cEd
                    | exact (HB1.out.cell (p := ⟨E, 0, none⟩) (by exact hEl)).trans cEd
                    | exact (World.cell?_setCell_other (a := ⟨D, m * 5, none⟩) (b := ⟨E, 0, none⟩) _ _ (by simp <;> omega)).trans ((HB1.out.cell (p := ⟨E, 0, none⟩) (by exact hEl)).trans cEd))
                  (first | (go_at_call 56; (with_reducible refine hC56.out.mono ?_); rintro e w1 ⟨rfl, hb⟩; obtain ⟨v0, hv0⟩ := (HD.out.below hb).cellAt hm4; have fv0 := (HD.out.below hb).fr (m * 5); have HB1 := Lib.hid hb; clear hb))
                go_wp2
                go_roundw
                case rel =>
                  refine ⟨m + 1, by omega, rfl, ?_⟩
                  rw [← HX.out]
                  exact (HD.out.below HB1.out).turn hm4
                case measure => simp [intOf]; omega
            · obtain rfl : m = 4 := by omega
              clear hm hm4
              obtain ⟨ga, gp, rfl⟩ := ownsRow_form HK.out.go.own
              have y4 := HK.out.go.c4
              have f4 := HK.out.go.f4
              have hrow := RowCells.covered htn HK.out.row
              have hrg2 := RowCells.range hrow
              have hkb : s * G.n + t + 1 ≤ 1000 := by
                have : (s + 1) * G.n ≤ sh * G.n := Nat.mul_le_mul_right _ hss
                rw [Nat.succ_mul] at this; omega
              have hNs := HK.out.bel.size
              have ownA := HK.out.go.own.alloc (.cells (rowA (covG G f g sh) (s * G.n + t)) 88)
              have newsA : ∀ (j : Nat) (u : Value), (rowA (covG G f g sh) (s * G.n + t)).toList[j]? = some u → (wr.alloc (.cells (rowA (covG G f g sh) (s * G.n + t)) 88)).cell? ((⟨wr.heap.size, 0, none⟩ : Addr).add j) = some u :=
                World.news_of_block (cs := rowA (covG G f g sh) (s * G.n + t)) (MapKept.heap_alloc wr _).1
              have oneA := fun u (hu : u ∈ (rowA (covG G f g sh) (s * G.n + t)).toList) => (Array.all_eq_true_iff_forall_mem.1 (rowA_one (covG G f g sh) (s * G.n + t))) u (by simpa using hu)
              have y4a := cell_al y4
              have f4a : ∀ o, (wr.alloc o).frozen? ⟨N + 1, 0, none⟩ = false := fun o => ((World.grownBy_alloc wr o none).frozen_far ⟨N + 1, 0, none⟩ (lt_of_cell y4) (by simp)).trans f4
              have hne := HK.out.go.ne
              obtain ⟨i0, hi0, ⟨z0, hz0, hzs⟩, hz1, hz2⟩ := info88
              have HA := Lib.hid (And.intro ownA (And.intro newsA (And.intro oneA (And.intro y4a (And.intro f4a hne))))); clear ownA newsA oneA y4a f4a hrow hne
              go_wp2_with (first | (refine wpList_load_row' rfl 88 (.tmp 7) rfl D 0 rfl (rowA (covG G f g sh) (s * G.n + t)) _ hrg2 Try.underlying88 rfl (by kernel_rfl) ?_) | (refine Go.Great.wpList_buildSliceTo rfl 22 88 1 _ rfl wr.heap.size rfl (.tmp 66) rfl und22 (rowA (covG G f g sh) (s * G.n + t)) (built88 _ _) ?_) | (at_builtin; rw [fold88]; refine (wpList_append_lies _ rfl (.tmp 64) (.tmp 66) 22 rfl N 88 i0 z0 20 160 und22 hi0 hz0 hz1 hz2 hzs (by omega) (.slice ga (s * G.n + t) gp) (s * G.n + t) _ rfl HA.out.1 ⟨wr.heap.size, 0, none⟩ 1 1 (rowA (covG G f g sh) (s * G.n + t)).toList rfl rfl HA.out.2.1 HA.out.2.2.1 (by omega) (by unfold maxLen; omega) (by omega) (by simp; omega) (wr.heap.size + 1) (by simp) ?_); intro g2 cp2 w1 r1 r2 r3 r4; have q1 := r2.cell (HA.out.2.2.2.1 _) (fun e => HA.out.2.2.2.2.2.2 e.symm); have q2 := (r2.frozen_far ⟨N + 1, 0, none⟩ (lt_of_cell (HA.out.2.2.2.1 _)) (fun e => HA.out.2.2.2.2.2.2 e.symm)).trans (HA.out.2.2.2.2.1 _); have H1 := Lib.hid (And.intro r1 (And.intro r2 (And.intro r3 r4))); clear r1 r2 r3 r4))
              · exfalso
                have hs20 : (rowA (covG G f g sh) (s * G.n + t)).size = 20 := rfl
                simp [hs20] at h
              go_roundw
              case rel =>
                obtain ⟨r1, r2, r3, r4⟩ := H1.out
                refine ⟨t + 1, _, by omega, rfl, HK.out.go.push (World.grownBy_alloc _ _ _) r1 r2 (by simpa using r3), ?_⟩
                exact ((HK.out.bel.alloc (by omega) _).grown r2 (by simp; omega) (fun k hk => own_ge HK.out.go.own hk)).setCell (by show N ≤ N + 1; omega) _
              case measure => simp [intOf]; omega
        · obtain rfl : t = G.n := by omega
          clear hGO hb
          go_wp2
          go_roundw
          case rel => exact ⟨s + 1, uv, by omega, rfl, by rw [Nat.succ_mul]; exact HK.out.1, HK.out.2⟩
          case measure => simp [intOf]; omega
    · obtain rfl : s = sh := by omega
      obtain ⟨ga, gp, rfl⟩ := ownsRow_form hGO.own
      obtain ⟨y2, y4, yf2, yf4, _, _⟩ := hGO
      clear hb
      go_wp2
      refine bodyPost_ret (v := .agg #[.slice ga (s * G.n) gp]) (by simp [results, Try.results45, go_sem, *]) rfl ⟨_, rfl, ?_, ?_⟩
      case refine_2 => rw [hN]; exact HK.out.2.setCell (by show N ≤ N; omega) _
      have hown := HK.out.1.own
      have hne := HK.out.1.ne
      have hkept := hown.kept (grownBy_setCell wr N 0 (.slice ga (s * G.n) gp)) (.inr hne.1)
      by_cases h0 : s * G.n = 0
      · exact ⟨ga, 0, 0, gp, by rw [show (covG G f g s).n = s * G.n from rfl], fun hp => by exfalso; have : (covG G f g s).n = s * G.n := rfl; omega, fun k hk => by exfalso; have : (covG G f g s).n = s * G.n := rfl; omega⟩
      · obtain ⟨g2, c2, hv, _⟩ := hkept.form (by omega)
        have hv' := hv
        simp only [Value.slice.injEq, true_and] at hv'
        obtain ⟨rfl, rfl⟩ := hv'
        refine GlAt.of_cells (G := covG G f g s) (own_lt_size hkept rfl) (fun j u hu => ?_)
        have := hkept.cells (g := g2) rfl j u hu
        rwa [Addr.add_mid, Nat.zero_add] at this
end Go.Proofs.Ytlckpgahijlmoaa
/- R01.Valid: a permutation of four, by what has been seen. No condition. -/
namespace Go.Proofs.Ytlckpgahijlmoaa
open Go.RowKit Go.Shelf

/-- the first k entries hold j -/
def seenF (p : Nat → Int) (k j : Nat) : Bool := (List.range k).any fun i => p i == (j : Int)
theorem seenF_succ (p : Nat → Int) (k j : Nat) : seenF p (k + 1) j = (seenF p k j || p k == (j : Int)) := by simp [seenF, List.range_succ]
/-- every entry lies in 0 to 3 and none comes twice -/
def validR (p : Nat → Int) : Bool := (List.range 4).all fun k => inB (p k) && !seenF p k (p k).toNat

theorem validR_false {p : Nat → Int} {k : Nat} (hk : k < 4) (h : (inB (p k) && !seenF p k (p k).toNat) = false) : validR p = false := all_range_false (p := fun k => inB (p k) && !seenF p k (p k).toNat) hk h

set_option maxRecDepth 20000 in
set_option maxHeartbeats 1000000 in
theorem validR_walk (p : Nat → Int) (w : World) :
    Calls Try.prog 63 #[.agg (P4 p)] w fun e w' => e = .returned (.bool (validR p)) ∧ Below w.heap.size w w' := by
  unfold P4
  go_enter Try.func63, Try.ntmps63
  go_wp2
  refine wp_named fun W1 hW => ?_
  have h1 : (∀ i, i < 4 → W1.cell? ⟨w.heap.size, i, none⟩ = some (.int .i64 (p i))) ∧ (∀ j, j < 4 → W1.cell? ⟨w.heap.size + 1, j, none⟩ = some (.bool (seenF p 0 j))) ∧ (∀ j, W1.frozen? ⟨w.heap.size + 1, j, none⟩ = false) ∧ Below w.heap.size w W1 := by
    rw [hW]
    refine ⟨fun i hi => ?_, fun j hj => ?_, fun j => by simp [go_sem], by (repeat' (first | assumption | exact Below.refl _ _ | refine below_then ?_ (by assumption) | refine below_al ?_ _ | refine below_dr ?_ | refine below_sc ?_ (by simp <;> omega) _))⟩
    · match i, hi with
      | 0, _ => simp [go_sem]
      | 1, _ => simp [go_sem]
      | 2, _ => simp [go_sem]
      | 3, _ => simp [go_sem]
    · match j, hj with
      | 0, _ => simp [go_sem, seenF]
      | 1, _ => simp [go_sem, seenF]
      | 2, _ => simp [go_sem, seenF]
      | 3, _ => simp [go_sem, seenF]
  have H1 := Lib.hid h1; clear h1 hW
  obtain ⟨N, hN⟩ : ∃ N, w.heap.size = N := ⟨_, rfl⟩
  have HN := Lib.hid hN
  rw [hN] at H1 ⊢
  clear hN
  go_loopw [4] (fun i wr => ∃ k : Nat, k ≤ 4 ∧ i = .int .i64 k ∧ (List.range k).all (fun k => inB (p k) && !seenF p k (p k).toNat) = true ∧ (∀ i, i < 4 → wr.cell? ⟨N, i, none⟩ = some (.int .i64 (p i))) ∧ (∀ j, j < 4 → wr.cell? ⟨N + 1, j, none⟩ = some (.bool (seenF p k j))) ∧ (∀ j, wr.frozen? ⟨N + 1, j, none⟩ = false) ∧ Below N w wr) (fun i _ => 4 - (intOf i).toNat)
  case atStart => exact ⟨0, by omega, rfl, rfl, H1.out⟩
  case round =>
    clear H1
    obtain ⟨k, hk, rfl, hall, hp, hs, hf, hb⟩ := hrel
    have HK := Lib.hid (And.intro hall (And.intro hp (And.intro hs (And.intro hf hb))))
    rcases Nat.lt_or_ge k 4 with hk4 | hk4
    · have k0 : 0 ≤ (k : Int) := by omega
      have k4 : (k : Int) < 4 := by omega
      have x := hp k hk4
      clear hp hall hb
      by_cases hin : inB (p k) = true
      · obtain ⟨c, hc⟩ : ∃ c : Nat, p k = c := ⟨(p k).toNat, by have := inB_iff.1 hin; omega⟩
        have hc4 : c < 4 := by have := inB_iff.1 hin; omega
        have c0 : 0 ≤ (c : Int) := by omega
        have c4 : (c : Int) < 4 := by omega
        have y := hs c hc4
        have fy := hf c
        rw [hc] at x
        have HC := Lib.hid (And.intro hin hc)
        clear hs hf hin hc
        have c3 : (c : Int) ≤ 3 := by omega
        cases hsn : seenF p k c with
        | true =>
          rw [hsn] at y
          have HS := Lib.hid hsn; clear hsn
          go_wp2
          go_ret
          exact ⟨by rw [validR_false hk4 (by rw [HC.out.2, Int.toNat_natCast, HS.out]; simp)]; rfl, HN.out ▸ HK.out.2.2.2.2⟩
        | false =>
          rw [hsn] at y
          have HS := Lib.hid hsn; clear hsn
          go_wp2
          go_roundw
          case rel => 
            obtain ⟨ha, hp, hs, hf, hb⟩ := HK.out
            refine ⟨k + 1, by omega, rfl, ?_, fun i hi => (World.cell?_setCell_other (a := ⟨N + 1, c, none⟩) (b := ⟨N, i, none⟩) _ _ (by simp)).trans (hp i hi), fun j hj => ?_, fun j => by rw [World.frozen?_setCell]; exact hf j, hb.setCell (by show N ≤ N + 1; omega) _⟩
            · rw [List.range_succ, List.all_append, ha]
              have hi := HC.out.1
              rw [HC.out.2] at hi
              simp [hi, HC.out.2, HS.out]
            · rw [seenF_succ, HC.out.2]
              by_cases e : j = c
              · subst e
                rw [World.cell?_setCell_same _ _ _ (hs j hj)]; simp
              · rw [World.cell?_setCell_other (a := ⟨N + 1, c, none⟩) (b := ⟨N + 1, j, none⟩) _ _ (by simp <;> omega), hs j hj]
                have : ((c : Int) == (j : Int)) = false := by simp; omega
                rw [this, Bool.or_false]
          case measure => simp [intOf]; omega
      · have HI := Lib.hid hin
        rw [inB_iff] at hin
        clear hs hf
        rcases Int.lt_or_le (p k) 0 with hneg | hneg
        · go_wp2
          go_ret
          exact ⟨by rw [validR_false hk4 (by rw [Bool.eq_false_iff.2 HI.out]; simp)]; rfl, HN.out ▸ HK.out.2.2.2.2⟩
        · have hbig : 3 < p k := by omega
          go_wp2
          go_ret
          exact ⟨by rw [validR_false hk4 (by rw [Bool.eq_false_iff.2 HI.out]; simp)]; rfl, HN.out ▸ HK.out.2.2.2.2⟩
    · obtain rfl : k = 4 := by omega
      clear hp hs hf hall hb
      go_wp2
      go_ret
      exact ⟨by rw [validR, HK.out.1]; rfl, HN.out ▸ HK.out.2.2.2.2⟩
end Go.Proofs.Ytlckpgahijlmoaa
namespace Go.Proofs.Ytlckpgahijlmoaa
open Go.RowKit Go.Shelf

theorem validR_in {p : Nat → Int} (h : validR p = true) : ∀ i, i < 4 → inB (p i) = true := fun i hi => by
  have := List.all_eq_true.1 h i (List.mem_range.2 hi)
  simp only [Bool.and_eq_true] at this
  exact this.1

set_option maxRecDepth 20000 in
set_option maxHeartbeats 1000000 in
theorem inverseR_walk (p : Nat → Int) (w : World) (hv : validR p = true) :
    Calls Try.prog 64 #[.agg (P4 p)] w fun e w' => e = .returned (.agg (P4 (invF p))) ∧ Below w.heap.size w w' := by
  have HI := Lib.hid (validR_in hv)
  have hS := fun W => validR_walk p W
  rw [hv] at hS
  unfold P4 at hS
  have HS := Lib.hid hS; clear hS hv
  unfold P4
  go_enter Try.func64, Try.ntmps64
  go_wp2_with (go_at_call 63; (with_reducible refine (HS.out _).mono ?_); rintro e w1 ⟨rfl, hb⟩; have HB := Lib.hid hb; clear hb)
  have h1 : (∀ i, i < 4 → w1.cell? ⟨w.heap.size, i, none⟩ = some (.int .i64 (p i))) ∧ (∀ j, j < 4 → w1.cell? ⟨w.heap.size + 1, j, none⟩ = some (.int .i64 0)) ∧ (∀ j, j < 4 → w1.cell? ⟨w.heap.size + 2, j, none⟩ = some (.int .i64 (invK p 0 j))) ∧ (∀ j, w1.frozen? ⟨w.heap.size + 1, j, none⟩ = false) ∧ (∀ j, w1.frozen? ⟨w.heap.size + 2, j, none⟩ = false) ∧ Below w.heap.size w w1 := by
    have hb := HB.out
    refine ⟨fun i hi => (hb.cell (p := ⟨w.heap.size, i, none⟩) (by simp <;> omega)).trans ?_, fun j hj => (hb.cell (p := ⟨w.heap.size + 1, j, none⟩) (by simp <;> omega)).trans ?_, fun j hj => (hb.cell (p := ⟨w.heap.size + 2, j, none⟩) (by simp <;> omega)).trans ?_, fun j => (hb.frozen (p := ⟨w.heap.size + 1, j, none⟩) (by simp <;> omega)).trans (by simp [go_sem]), fun j => (hb.frozen (p := ⟨w.heap.size + 2, j, none⟩) (by simp <;> omega)).trans (by simp [go_sem]), ?_⟩
    · match i, hi with
      | 0, _ => simp [go_sem]
      | 1, _ => simp [go_sem]
      | 2, _ => simp [go_sem]
      | 3, _ => simp [go_sem]
    · match j, hj with
      | 0, _ => simp [go_sem]
      | 1, _ => simp [go_sem]
      | 2, _ => simp [go_sem]
      | 3, _ => simp [go_sem]
    · match j, hj with
      | 0, _ => simp [go_sem, invK]
      | 1, _ => simp [go_sem, invK]
      | 2, _ => simp [go_sem, invK]
      | 3, _ => simp [go_sem, invK]
    · exact Below.trans (by (repeat' (first | assumption | exact Below.refl _ _ | refine below_then ?_ (by assumption) | refine below_al ?_ _ | refine below_dr ?_ | refine below_sc ?_ (by simp <;> omega) _))) (hb.mono (by simp <;> omega))
  have H1 := Lib.hid h1; clear h1 HB
  obtain ⟨N, hN⟩ : ∃ N, w.heap.size = N := ⟨_, rfl⟩
  have HN := Lib.hid hN
  rw [hN] at H1 ⊢
  clear hN
  go_loopw [4] (fun i wr => ∃ k : Nat, k ≤ 4 ∧ i = .int .i64 k ∧ (∀ i, i < 4 → wr.cell? ⟨N, i, none⟩ = some (.int .i64 (p i))) ∧ (∀ j, j < 4 → wr.cell? ⟨N + 1, j, none⟩ = some (.int .i64 0)) ∧ (∀ j, j < 4 → wr.cell? ⟨N + 2, j, none⟩ = some (.int .i64 (invK p k j))) ∧ (∀ j, wr.frozen? ⟨N + 1, j, none⟩ = false) ∧ (∀ j, wr.frozen? ⟨N + 2, j, none⟩ = false) ∧ Below N w wr) (fun i _ => 4 - (intOf i).toNat)
  case atStart => exact ⟨0, by omega, rfl, H1.out⟩
  case round =>
    clear H1
    obtain ⟨k, hk, rfl, hp, hr, hs, fr, fs, hb⟩ := hrel
    have HK := Lib.hid (And.intro hp (And.intro hr (And.intro hs (And.intro fr (And.intro fs hb)))))
    rcases Nat.lt_or_ge k 4 with hk4 | hk4
    · have k0 : 0 ≤ (k : Int) := by omega
      have k4 : (k : Int) < 4 := by omega
      have x := hp k hk4
      obtain ⟨c, hc⟩ : ∃ c : Nat, p k = c := ⟨(p k).toNat, by have := inB_iff.1 (HI.out k hk4); omega⟩
      have hc4 : c < 4 := by have := inB_iff.1 (HI.out k hk4); omega
      have c0 : 0 ≤ (c : Int) := by omega
      have c4 : (c : Int) < 4 := by omega
      have y := hs c hc4
      have fy := fs c
      rw [hc] at x
      have HC := Lib.hid hc
      clear hp hr hs fr fs hb hc
      go_wp2
      go_roundw
      case rel =>
        obtain ⟨hp, hr, hs, fr, fs, hb⟩ := HK.out
        refine ⟨k + 1, by omega, rfl, fun i hi => (World.cell?_setCell_other (a := ⟨N + 2, c, none⟩) (b := ⟨N, i, none⟩) _ _ (by simp)).trans (hp i hi), fun i hi => (World.cell?_setCell_other (a := ⟨N + 2, c, none⟩) (b := ⟨N + 1, i, none⟩) _ _ (by simp)).trans (hr i hi), fun j hj => ?_, fun j => by rw [World.frozen?_setCell]; exact fr j, fun j => by rw [World.frozen?_setCell]; exact fs j, hb.setCell (by show N ≤ N + 2; omega) _⟩
        have hu : invK p (k + 1) j = if j = c then (k : Int) else invK p k j := by simp only [invK, upd, HC.out, Int.toNat_natCast]
        rw [hu]
        by_cases e : j = c
        · subst e
          rw [World.cell?_setCell_same _ _ _ (hs j hj), if_pos rfl]
        · rw [World.cell?_setCell_other (a := ⟨N + 2, c, none⟩) (b := ⟨N + 2, j, none⟩) _ _ (by simp <;> omega), hs j hj, if_neg e]
      case measure => simp [intOf]; omega
    · obtain rfl : k = 4 := by omega
      have a0 := hs 0 (by omega)
      have a1 := hs 1 (by omega)
      have a2 := hs 2 (by omega)
      have a3 := hs 3 (by omega)
      have b0 := hr 0 (by omega)
      have b1 := hr 1 (by omega)
      have b2 := hr 2 (by omega)
      have b3 := hr 3 (by omega)
      have e0 := fr 0
      have e1 := fr 1
      have e2 := fr 2
      have e3 := fr 3
      clear hp hr hs fr fs hb
      go_wp2
      refine bodyPost_ret (v := .agg (P4 (invK p 4))) (by simp [results, Try.results64, go_sem, P4, *]) rfl ⟨rfl, ?_⟩
      rw [HN.out]
      exact (((HK.out.2.2.2.2.2.setCell (by show N ≤ N + 1; omega) _).setCell (by show N ≤ N + 1; omega) _).setCell (by show N ≤ N + 1; omega) _).setCell (by show N ≤ N + 1; omega) _
end Go.Proofs.Ytlckpgahijlmoaa
