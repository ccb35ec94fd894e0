/- R02's link: it returns six cells, and turns nothing. -/
import Derived.Test.YtlckpgahijlmoaaQ13
import Derived.Test.YtlckpgahijlmoaaQ26
import Derived.Test.YtlckpgahijlmoaaQ15
import Derived.Test.YtlckpgahijlmoaaQ28
namespace Go.Proofs.Ytlckpgahijlmoaa
open Go.RowKit Go.Shelf

theorem IntRow.below {B : Nat} {w W : World} {d n : Nat} {f : Nat → Int} (h : IntRow w d n f) (hb : Below B w W) (hd : d < B) : IntRow W d n f := by
  obtain ⟨c, h1, h3, h4⟩ := h
  exact ⟨c, (hb.block d hd).trans h1, h3, h4⟩
theorem rowA_tet5 (G : Gl) (t f : Nat) (hf : f < 4) : (rowA G t)[f * 5]? = some (.int .i64 (G.tet (4 * t + f))) := by
  rcases (show f = 0 ∨ f = 1 ∨ f = 2 ∨ f = 3 by omega) with rfl | rfl | rfl | rfl <;> simp [rowA]
theorem Below.grown0 {W W' : World} (hb : Below W.heap.size W W') : W.grownBy W' none := ⟨hb.os, hb.tape, hb.output, hb.size, fun k hk _ => hb.block k hk⟩
/-- the link under way -/
structure LN (w W : World) (N n : Nat) (a : Option Addr) (cap : Nat) (v : Value) (xs : List Int) : Prop where
  c0 : W.cell? ⟨N, 0, none⟩ = some (.slice a n cap)
  d1 : DS W (N + 1)
  d2 : DS W (N + 2)
  ol : OL W (N + 3) v xs
  bel : Below N w W
/-- besides: a row's copy -/
structure LR (w W : World) (N n : Nat) (a : Option Addr) (cap : Nat) (v : Value) (xs : List Int) (D : Nat) (G : Gl) (t : Nat) : Prop where
  ln : LN w W N n a cap v xs
  row : RowCells W D 0 G t
  lo : N + 3 ≤ D
  lt : D < W.heap.size
  ne : v.ownBlock ≠ some D
section
variable {w W W' : World} {N n : Nat} {a : Option Addr} {cap : Nat} {v v' : Value} {xs xs' : List Int} {D t : Nat} {G : Gl}
theorem LN.lt (h : LN w W N n a cap v xs) : N + 2 < W.heap.size := h.d2.lt
theorem LN.kept (h : LN w W N n a cap v xs) (hg : W.grownBy W' none) : LN w W' N n a cap v xs :=
  ⟨hg.cell h.c0 (by simp), h.d1.kept hg (by simp), h.d2.kept hg (by simp), h.ol.kept hg (by cases v.ownBlock <;> simp), h.bel.grown hg (by have := h.lt; omega) (fun k e => by cases e)⟩
theorem LR.kept (h : LR w W N n a cap v xs D G t) (hg : W.grownBy W' none) : LR w W' N n a cap v xs D G t :=
  ⟨h.ln.kept hg, h.row.kept hg (by simp), h.lo, Nat.lt_of_lt_of_le h.lt hg.size, h.ne⟩
theorem LR.of (h : LN w W N n a cap v xs) : LR w (W.alloc (.cells (rowA G t) 88)) N n a cap v xs W.heap.size G t :=
  ⟨h.kept (World.grownBy_alloc _ _ none), fun j hj => by rw [Nat.zero_add]; exact World.cell?_alloc_at _ _ _ _ rfl, by have := h.lt; omega, by simp, fun e => by have := (h.ol.lt _ e).2; omega⟩
theorem LR.dist (h : LR w W N n a cap v xs D G t) (h1 : OL W' (N + 3) v' xs') (h2 : W.grownBy W' v.ownBlock) (h3 : v'.ownBlock = v.ownBlock ∨ ∃ g, v'.ownBlock = some g ∧ W.heap.size ≤ g) : LR w W' N n a cap v' xs' D G t := by
  have lo : ∀ b, b < N + 3 → some b ≠ v.ownBlock := fun b hb e => by have := (h.ln.ol.lt b e.symm).1; omega
  refine ⟨⟨h2.cell h.ln.c0 (lo N (by omega)), h.ln.d1.kept h2 (lo _ (by omega)), h.ln.d2.kept h2 (lo _ (by omega)), h1, h.ln.bel.grown h2 (by have := h.ln.lt; omega) (fun k e => by have := (h.ln.ol.lt k e).1; omega)⟩, h.row.kept h2 (fun e => h.ne e.symm), h.lo, Nat.lt_of_lt_of_le h.lt h2.size, fun e => ?_⟩
  rcases h3 with q | ⟨g, q, hg⟩
  · exact h.ne (q ▸ e)
  · rw [q] at e; have := Option.some.inj e; have := h.lt; omega
theorem LR.set0 (h : LR w W N n a cap v xs D G t) (z : Int) : LR w (W.setCell ⟨N + 2, 0, none⟩ (.int .i64 z)) N n a cap v xs D G t := by
  have hg := grownBy_setCell W (N + 2) 0 (.int .i64 z)
  refine ⟨⟨hg.cell h.ln.c0 (by simp), h.ln.d1.kept hg (by simp), h.ln.d2.s0 z, h.ln.ol.kept hg ?_, h.ln.bel.grown hg (by have := h.ln.lt; omega) (fun k e => by cases e; omega)⟩, h.row.kept hg (fun e => by have := Option.some.inj e; have := h.lo; omega), h.lo, by simpa using h.lt, h.ne⟩
  right; intro e; have := (h.ln.ol.lt _ e).1; omega
end
/-- six cells, and nothing turned -/
def RetSix (w : World) (e : Ending) (w' : World) : Prop := (∃ (a b c d : Int) (x y : Bool), e = .returned (.agg #[.int .i64 a, .int .i64 b, .int .i64 c, .int .i64 d, .bool x, .bool y])) ∧ Below w.heap.size w w'
set_option maxRecDepth 20000 in
set_option maxHeartbeats 2000000 in
theorem rlink_walk (G : Gl) (hok : checkB G = true) (w : World) (v : Value) (hv : GlAt w.heap.size w v G) (d : Nat) (vf : Nat → Int) (hd : IntRow w d (4 * G.n) vf) (d' : Nat) (df : Nat → Int) (hd' : IntRow w d' (16 * G.n) df) (x : Int) :
    Calls Try.prog 95 #[.agg #[v], .slice (some ⟨d, 0, none⟩) (4 * G.n) (4 * G.n), .slice (some ⟨d', 0, none⟩) (16 * G.n) (16 * G.n), .int .i64 x] w (RetSix w) := by
  have hn : G.n ≤ 1000 := by simp only [checkB, Bool.and_eq_true, decide_eq_true_eq] at hok; exact hok.1
  have HO := Lib.hid (And.intro hok (And.intro hd hd'))
  have HV := Lib.hid hv
  have hdl := hd.lt
  have hdl' := hd'.lt
  clear hok hd hd'
  obtain ⟨a, b, off, cap, rfl, ha, hc⟩ := hv
  have HGC := Lib.hid (And.intro ha hc); clear ha hc
  go_enter Try.func95, Try.ntmps95
  go_wp2
  refine wp_named fun W1 hW => ?_
  have h1 : LN w W1 w.heap.size G.n a cap (.slice none 0 0) [] := by
    rw [hW]
    refine ⟨by simp [go_sem], ?_, ?_, OL.nil _ _, by (repeat' (first | assumption | exact Below.refl _ _ | refine below_then ?_ (by assumption) | refine below_al ?_ _ | refine below_dr ?_ | refine below_sc ?_ (by simp <;> omega) _))⟩
    · have := ds_new (w.alloc (.cells #[.slice a G.n cap] 24)) 0 0 0 0 false false
      rw [World.size_alloc] at this
      exact this.kept (World.grownBy_alloc _ _ none) (by simp)
    · have := ds_new ((w.alloc (.cells #[.slice a G.n cap] 24)).alloc (.cells #[.int .i64 0, .int .i64 0, .int .i64 0, .int .i64 0, .bool false, .bool false] 164)) 0 0 0 0 true true
      rw [World.size_alloc, World.size_alloc] at this
      exact this
  have H1 := Lib.hid h1
  have c0 := h1.c0
  clear h1 hW
  generalize hN : w.heap.size = N at *
  go_loopw [21, 10, 11, 12] (fun i p q c wr => ∃ (t : Nat) (pz qz : Int) (xs : List Int), t ≤ G.n ∧ i = .int .i64 t ∧ p = .int .i64 pz ∧ q = .int .i64 qz ∧ xs.length ≤ 16 * t ∧ LN w wr N G.n a cap c xs) (fun i _ _ _ _ => G.n - (intOf i).toNat)
  case atStart => exact ⟨0, 0, 0, [], by omega, rfl, rfl, rfl, by simp, H1.out⟩
  case round =>
    clear H1 c0
    obtain ⟨t, pz, qz, xs, ht, rfl, rfl, rfl, hxs, hR⟩ := hrel
    obtain ⟨la, lc, rfl⟩ := ownsRow_form hR.ol
    have HR := Lib.hid hR
    rcases Nat.lt_or_ge t G.n with htn | htn
    · obtain ⟨hga, hgc⟩ := HGC.out
      obtain ⟨rfl, hbB⟩ := hga (by omega)
      have hrow := rowCells (W := wr) (b := b) (off := off) (fun k hk => ⟨(hR.bel.cell (p := ⟨b, _, none⟩) (by show b < N; omega)).trans (hgc k hk).1, fun i hi => (hR.bel.cell (p := ⟨b, _, none⟩) (by show b < N; omega)).trans ((hgc k hk).2 i hi)⟩) t htn
      have hrg := hrow.range
      have t0 : 0 ≤ (t : Int) := by omega
      have tn : (t : Int) < (G.n : Int) := by omega
      clear hR hga hgc hrow
      go_wp2_with (first | (refine wpList_load_row' rfl 88 (.tmp 24) rfl b (off + t * 20) rfl (rowA G t) _ hrg Try.underlying88 rfl (by kernel_rfl) ?_) | (refine wpList_store_new (w := wr) rfl 88 (.tmp 14) (.tmp 25) rfl _ (rowA G t) rfl rfl (by kernel_rfl) rfl (rowA_one G t) ?_))
      refine wp_named fun W3 hW3 => ?_
      obtain ⟨D, hD⟩ : ∃ D, D = wr.heap.size := ⟨_, rfl⟩
      have h3 : LR w W3 N G.n (some ⟨b, off, none⟩) cap (.slice la xs.length lc) xs D G t := by rw [hW3, hD]; exact LR.of HR.out
      rw [← hD]
      have H3 := Lib.hid h3
      clear h3 hW3 HR hrg hD
      go_loopw [15, 10, 11, 12] (fun i p q c wr => ∃ (j : Nat) (pz qz : Int) (xs : List Int), j ≤ 4 ∧ i = .int .i64 j ∧ p = .int .i64 pz ∧ q = .int .i64 qz ∧ xs.length ≤ 16 * t + 4 * j ∧ LR w wr N G.n (some ⟨b, off, none⟩) cap c xs D G t) (fun i _ _ _ _ => 4 - (intOf i).toNat)
      case atStart => exact ⟨0, pz, qz, xs, by omega, rfl, rfl, rfl, by omega, H3.out⟩
      case round =>
        clear H3 hxs
        obtain ⟨i, pz, qz, xs, hi, rfl, rfl, rfl, hxs, hR⟩ := hrel
        obtain ⟨la, lc, rfl⟩ := ownsRow_form hR.ln.ol
        have HR := Lib.hid hR
        rcases Nat.lt_or_ge i 4 with hi4 | hi4
        · have i4 : (i : Int) < 4 := by omega
          have i0 : 0 ≤ (i : Int) := by omega
          have cv := (hR.ln.bel.cell (p := ⟨d, 4 * t + i, none⟩) (by show d < N; omega)).trans (HO.out.2.1.cell (i := 4 * t + i) (by omega))
          obtain ⟨I, hI⟩ : ∃ I : Nat, I = 4 * t + i := ⟨_, rfl⟩
          rw [← hI] at cv
          have hIn : I < 4 * G.n := by omega
          have hIe : 4 * (t : Int) + (i : Int) = (I : Int) := by omega
          clear hI
          obtain ⟨oa, ob, oc, od, ox, oy, k0, k1, k2, k3, k4, k5⟩ := hR.ln.d2.c
          have hfz := hR.ln.d2.f 0
          clear hR k1 k2 k3 k4 k5
          generalize vf I = y at *
          by_cases eyx : y = x
          · have b2 : (y != x) = false := by simp [bne, eyx]
            clear eyx
            go_wp2
            refine wp_named fun W5 hW5 => ?_
            have h5 : LR w W5 N G.n (some ⟨b, off, none⟩) cap (.slice la xs.length lc) xs D G t := by rw [hW5]; exact HR.out.set0 _
            have H5 := Lib.hid h5
            clear h5 hW5 HR cv k0 hfz
            go_loopw [16, 10, 11, 12] (fun i' p q c wr => ∃ (j : Nat) (pz qz : Int) (xs : List Int), j ≤ 4 ∧ i' = .int .i64 j ∧ p = .int .i64 pz ∧ q = .int .i64 qz ∧ xs.length ≤ 16 * t + 4 * i + j ∧ LR w wr N G.n (some ⟨b, off, none⟩) cap c xs D G t) (fun i _ _ _ _ => 4 - (intOf i).toNat)
            case atStart => exact ⟨0, pz, qz, xs, by omega, rfl, rfl, rfl, by omega, H5.out⟩
            case round =>
              clear H5 hxs
              obtain ⟨j, pz, qz, xs, hj, rfl, rfl, rfl, hxs, hR⟩ := hrel
              obtain ⟨la, lc, rfl⟩ := ownsRow_form hR.ln.ol
              rcases Nat.lt_or_ge j 4 with hj4 | hj4
              · have j4 : (j : Int) < 4 := by omega
                have j0 : 0 ≤ (j : Int) := by omega
                have HR := Lib.hid hR
                by_cases eij : j = i
                · have b1 := natbeq_true eij
                  clear hR eij
                  go_wp2
                  go_roundw
                  case rel => exact ⟨j + 1, pz, qz, xs, by omega, rfl, rfl, rfl, by omega, HR.out⟩
                  case measure => simp [intOf]; omega
                · have b1 := natbeq_false eij
                  clear eij
                  have cd := (hR.ln.bel.cell (p := ⟨d', 16 * t + 4 * i + j, none⟩) (by show d' < N; omega)).trans (HO.out.2.2.cell (i := 16 * t + 4 * i + j) (by omega))
                  obtain ⟨J, hJ⟩ : ∃ J : Nat, J = 16 * t + 4 * i + j := ⟨_, rfl⟩
                  rw [← hJ] at cd
                  have hJn : J < 16 * G.n := by omega
                  have hJe : 16 * (t : Int) + 4 * (i : Int) + (j : Int) = (J : Int) := by omega
                  clear hJ
                  have hNs : N + 3 ≤ wr.heap.size := hR.ln.lt
                  clear hR
                  generalize df J = z at *
                  go_wp2_with fail
                  refine (distinct_walk (N + 3) _ xs z _ HR.out.ln.ol (by omega) hNs).mono ?_
                  rintro e w6 ⟨v', xs', rfl, r1, r2, r3, r4⟩
                  have h6 := HR.out.dist r1 r3 r4
                  have ct : w6.cell? ⟨D, j * 5, none⟩ = some (.int .i64 (G.tet (4 * t + j))) := by
                    have := h6.row (j * 5) (by omega)
                    rw [Nat.zero_add, rowA_tet5 G t j hj4] at this
                    exact this
                  have H6 := Lib.hid h6
                  have hxl : xs'.length ≤ 16 * t + 4 * i + (j + 1) := by omega
                  clear h6 r1 r2 r3 r4 HR cd
                  generalize G.tet (4 * t + j) = T at *
                  by_cases hT : T < 0
                  · go_wp2
                    go_roundw
                    case rel => exact ⟨j + 1, _, _, xs', by omega, rfl, rfl, rfl, by omega, H6.out⟩
                    case measure => simp [intOf]; omega
                  · go_wp2
                    go_roundw
                    case rel => exact ⟨j + 1, _, _, xs', by omega, rfl, rfl, rfl, by omega, H6.out⟩
                    case measure => simp [intOf]; omega
              · obtain rfl : j = 4 := by omega
                have HR := Lib.hid hR
                clear hR
                go_wp2
                go_roundw
                case rel => exact ⟨i + 1, pz, qz, xs, by omega, rfl, rfl, rfl, by omega, HR.out⟩
                case measure => simp [intOf]; omega
          · have b2 : (y != x) = true := by simpa [bne] using eyx
            clear eyx k0 hfz
            go_wp2
            go_roundw
            case rel => exact ⟨i + 1, pz, qz, xs, by omega, rfl, rfl, rfl, by omega, HR.out⟩
            case measure => simp [intOf]; omega
        · obtain rfl : i = 4 := by omega
          clear hR
          go_wp2
          go_roundw
          case rel => exact ⟨t + 1, pz, qz, xs, by omega, rfl, rfl, rfl, by omega, HR.out.ln⟩
          case measure => simp [intOf]; omega
    · obtain rfl : t = G.n := by omega
      have hl := hR.lt
      obtain ⟨oa, ob, oc, od, ox, oy, k0, k1, k2, k3, k4, k5⟩ := hR.d2.c
      have hfz := hR.d2.f
      have c0 := hR.c0
      clear hR
      go_wp2_with fail
      refine wp_world_named fun W7 hW7 => ?_
      have h7 : DS W7 (N + 1) ∧ DS W7 (N + 1 + 1) ∧ Below N w W7 := by
        rw [hW7]
        refine ⟨(((HR.out.d1.kept (grownBy_setCell _ _ _ _) (by simp)).kept (grownBy_setCell _ _ _ _) (by simp)).kept (grownBy_setCell _ _ _ _) (by simp)).kept (grownBy_setCell _ _ _ _) (by simp), (((HR.out.d2.s1 _).s2 _).s3 _).s4 _, ?_⟩
        exact (((HR.out.bel.setCell (by show N ≤ N + 1 + 1; omega) _).setCell (by show N ≤ N + 1 + 1; omega) _).setCell (by show N ≤ N + 1 + 1; omega) _).setCell (by show N ≤ N + 1 + 1; omega) _
      clear hW7 k0 k1 k2 k3 k4 k5 hfz c0
      have hsz := h7.2.2.size
      refine (rorientable_walk G HO.out.1 W7 _ ((HV.out.below h7.2.2).mono (by omega)) d vf (IntRow.below HO.out.2.1 h7.2.2 hdl) x).mono ?_
      rintro e w8 ⟨⟨bo, rfl⟩, hb8⟩
      have hg8 := Below.grown0 hb8
      have q1 := h7.1.kept hg8 (by simp)
      have q2 := h7.2.1.kept hg8 (by simp)
      have hb9 := h7.2.2.trans (hb8.mono (by omega))
      obtain ⟨ra, rb, rc, rd, rx, ry, m0, m1, m2, m3, m4, m5⟩ := q2.c
      have hfm := q2.f
      obtain ⟨sa, sb, sc, sd, sx, sy, n0, n1, n2, n3, n4, n5⟩ := q1.c
      have hfn := q1.f
      have HQ := Lib.hid hb9
      clear h7 q1 q2 hg8 hb8 hb9
      go_wp2
      refine bodyPost_ret (v := .agg #[.int .i64 ra, .int .i64 rb, .int .i64 rc, .int .i64 rd, .bool rx, .bool bo]) (by simp [results, Try.results95, go_sem, *]) rfl ⟨⟨_, _, _, _, _, _, rfl⟩, ?_⟩
      rw [hN]
      exact six_below (HQ.out.setCell (by show N ≤ N + 1 + 1; omega) _) (by omega) _ _ _ _ _ _
end Go.Proofs.Ytlckpgahijlmoaa
