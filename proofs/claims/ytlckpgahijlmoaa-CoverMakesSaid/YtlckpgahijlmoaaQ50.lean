/- cover's deck: exact. -/
import Derived.Test.YtlckpgahijlmoaaQ49
import Derived.Test.YtlckpgahijlmoaaQ39
/- glue.Parts of a valid gluing, with its numbers: by any invariant that its steps keep (PInv). -/
namespace Go.Proofs.Ytlckpgahijlmoaa
open Go.RowKit Go.Shelf

theorem PQ.qcell2 {w W : World} {N n : Nat} {v qv : Value} {qs : List Nat} {h : Nat → Int} (hq : PQ w W N n v qv qs h) {k : Nat} (hk : k < qs.length) : ∃ g cap q, qv = .slice (some ⟨g, 0, none⟩) qs.length cap ∧ W.cell? ⟨g, k, none⟩ = some (.int .i64 ((q : Nat) : Int)) ∧ q < n ∧ qs[k]? = some q := by
  obtain ⟨g, cap, hv, _⟩ := hq.own.form (by omega)
  refine ⟨g, cap, qs[k], hv, ?_, hq.qlt _ (List.getElem_mem hk), List.getElem?_eq_getElem hk⟩
  have := hq.own.cells (g := g) (by rw [hv]; rfl) k (.int .i64 (qs[k] : Nat)) (by simp [hk])
  rwa [Addr.add_mid, Nat.zero_add] at this

set_option maxRecDepth 100000 in
set_option maxHeartbeats 2000000 in
theorem pparts_walk (G : Gl) (hok : checkB G = true) {A : Nat → Nat → (Nat → Int) → Prop} {B : Nat → Nat → List Nat → (Nat → Int) → Nat → Prop} {C : Nat → Nat → List Nat → (Nat → Int) → Nat → Nat → Nat → Prop} (hI : PInv G A B C) (v : Value) (w : World) (hG : GlAt w.heap.size w v G) :
    Calls Try.prog 109 #[.agg #[v]] w fun e w' => ∃ (d p : Nat) (h : Nat → Int), e = .returned (.tuple #[.slice (some ⟨d, 0, none⟩) G.n G.n, .int .i64 (p : Int)]) ∧ IntRow w' d G.n h ∧ A G.n p h ∧ Below w.heap.size w w' := by
  have hn : G.n ≤ 1000 := by simp only [checkB, Bool.and_eq_true, decide_eq_true_eq] at hok; exact hok.1
  have hmk := run_make_row' (P := Try.prog) 35 3 (.int .i64 0) 8 und35 info3 rfl .i64 .i64 G.n (by omega) (by omega)
  have HG := Lib.hid (And.intro hok hG)
  have HI := Lib.hid hI
  obtain ⟨a, cap, rfl⟩ : ∃ a cap, v = .slice a G.n cap := by obtain ⟨a, _, _, cap, e, _⟩ := hG; exact ⟨a, cap, e⟩
  clear hok hG hI
  generalize hN : w.heap.size = N at *
  obtain ⟨n, hne⟩ : ∃ n, n = G.n := ⟨_, rfl⟩
  rw [← hne] at hn hmk ⊢
  have HNN := Lib.hid (And.intro hN hne)
  clear hne
  go_enter Try.func109, Try.ntmps109
  go_wp2
  refine wp_named fun W1 hW => ?_
  have h1 : IntRow W1 (N + 1) n (fun i => if i < 0 then -1 else 0) ∧ W1.cell? ⟨N, 0, none⟩ = some (.slice a n cap) ∧ Below N w W1 := by
    subst hN
    have := World.rowIs_made (w.alloc (.cells #[.slice a n cap] 24)) (.int .i64 0) n 3
    simp only [World.size_alloc] at this
    rw [hW]
    exact ⟨this.congr (fun i _ => by simp), by simp [go_sem], by (repeat' (first | assumption | exact Below.refl _ _ | refine below_then ?_ (by assumption) | refine below_al ?_ _ | refine below_dr ?_ | refine below_sc ?_ (by simp <;> omega) _))⟩
  have H1 := Lib.hid h1
  clear h1 hW hmk
  go_loopw [18] (fun i wr => ∃ k : Nat, k ≤ n ∧ i = .int .i64 k ∧ IntRow wr (N + 1) n (fun i => if i < k then -1 else 0) ∧ wr.cell? ⟨N, 0, none⟩ = some (.slice a n cap) ∧ Below N w wr) (fun i _ => n - (intOf i).toNat)
  case atStart => exact ⟨0, by omega, rfl, H1.out⟩
  case round =>
    clear H1
    obtain ⟨k, hk, rfl, hr, hc, hb⟩ := hrel
    have HK := Lib.hid (And.intro hr (And.intro hc hb))
    rcases Nat.lt_or_ge k n with hkn | hkn
    · have ck := hr.cell hkn
      have fk := hr.frozen k
      clear hr hb
      go_wp2
      refine ⟨⟨k + 1, by omega, by simp, (HK.out.1.set k _).congr (fun i _ => ?_), (grownBy_setCell wr (N + 1) k _).cell HK.out.2.1 (by simp), HK.out.2.2.setCell (by show N ≤ N + 1; omega) _⟩, by simp [intOf]; omega⟩
      by_cases e : i = k
      · simp [e]
      · have : i < k + 1 ↔ i < k := by omega
        simp [e, this]
    · obtain rfl : k = n := by omega
      have H2 := Lib.hid (show IntRow wr (N + 1) k (fun _ => -1) ∧ wr.cell? ⟨N, 0, none⟩ = some (.slice a k cap) ∧ Below N w wr from ⟨hr.congr (fun i hi => by simp [hi]), hc, hb⟩)
      clear hr hc hb HK
      go_wp2
      clear hk hkn
      go_loopw [6, 27] (fun pv i wr => ∃ (t p : Nat) (h : Nat → Int), t ≤ k ∧ p ≤ t ∧ i = .int .i64 t ∧ pv = .int .i64 p ∧ A t p h ∧ IntRow wr (N + 1) k h ∧ (∀ j, j < k → -1 ≤ h j) ∧ wr.cell? ⟨N, 0, none⟩ = some (.slice a k cap) ∧ Below N w wr) (fun _ i _ => k - (intOf i).toNat)
      case atStart => exact ⟨0, 0, fun _ => -1, by omega, by omega, rfl, rfl, HI.out.start, H2.out.1, fun _ _ => Int.le_refl _, H2.out.2⟩
      case round =>
        clear H2
        obtain ⟨t, p, h, ht, hpt, rfl, rfl, hA, hr, hsv, hc, hb⟩ := hrel
        have HK := Lib.hid (And.intro hr (And.intro hsv (And.intro hc (And.intro hb hA))))
        rcases Nat.lt_or_ge t k with htk | htk
        · have ct := hr.cell htk
          have ft := hr.frozen t
          have hst := hsv t htk
          clear hr hsv hb hA
          obtain ⟨z, hz⟩ : ∃ z, z = h t := ⟨_, rfl⟩
          rw [← hz] at ct hst
          have HZ := Lib.hid hz
          clear hz
          have t0 : 0 ≤ (t : Int) := by omega
          have tk : (t : Int) < (k : Int) := by omega
          rcases Int.lt_or_le z 0 with hz0 | hz0
          · have q1 : decide (0 ≤ z) = false := by simp; omega
            go_wp2
            obtain ⟨D, hD⟩ : ∃ D, D = wr.heap.size := ⟨_, rfl⟩
            rw [← hD]
            refine wp_named fun W5 hW5 => ?_
            have hQ : PQ w W5 N k (.slice a k cap) (.slice (some ⟨D, 0, none⟩) 1 1) [t] (fun i => if i = t then (p : Int) else h i) := by
              obtain ⟨hr, hsv, hc, hb, -⟩ := HK.out
              have hlt := hr.lt
              have hs := grownBy_setCell wr (N + 1) t (.int .i64 (p : Int))
              have hal := World.grownBy_alloc (wr.setCell ⟨N + 1, t, none⟩ (.int .i64 (p : Int))) (.cells #[.int .i64 (t : Int)] 3) none
              rw [← hW5] at hal
              have hown := World.ownsRow_lit (base := N + 2) (e := 3) (size := 1) (wr.setCell ⟨N + 1, t, none⟩ (.int .i64 (p : Int))) #[.int .i64 (t : Int)] 1 (by simp; omega) (by decide) rfl
              rw [← hW5] at hown
              simp only [World.size_setCell, ← hD] at hown
              refine ⟨hown, rowIs_kept ((hr.set t _).congr (fun i _ => by by_cases e : i = t <;> simp [e])) hal (by simp), fun j hj => ?_, fun q hq => ?_, ?_, hal.cell (hs.cell hc (by simp)) (by simp), (hb.setCell (by show N ≤ N + 1; omega) _).grown hal (by simp; omega) (fun r e => by cases e)⟩
              · by_cases e : j = t
                · simp only [e, if_true]; omega
                · simp only [e, if_false]; exact hsv j hj
              · simp at hq; omega
              · have e : (fun i => (if i = t then (p : Int) else h i) + 1) = fun i => if i = t then (p : Int) + 1 else h i + 1 := by
                  funext i; split <;> rfl
                have := hsv t htk
                have := HZ.out
                rw [e, nzc_set (s := fun i => h i + 1) htk (by omega) (by omega)]
                simp
            have hB := HI.out.new t p h (by have := HNN.out.2; omega) HK.out.2.2.2.2 (by rw [← HZ.out]; exact hz0)
            have HQ := Lib.hid (And.intro hQ hB)
            clear hQ hB hW5 hD hc ct ft
            go_loopw [8, 9] (fun lv i wr => ∃ (qs : List Nat) (h : Nat → Int) (j : Nat), j ≤ qs.length ∧ i = .int .i64 j ∧ PQ w wr N k (.slice a k cap) lv qs h ∧ B t p qs h j) (fun _ i _ => k - (intOf i).toNat)
            case atStart => exact ⟨_, _, 0, by omega, rfl, HQ.out⟩
            case round =>
              clear HQ
              obtain ⟨qs, h2, j, hj, rfl, hP, hB⟩ := hrel
              obtain ⟨la, lc, rfl⟩ := ownsRow_form hP.own
              have HP := Lib.hid (And.intro hP hB)
              have hlk : qs.length ≤ k := Nat.le_trans hP.cnt (nzc_le _ _)
              rcases Nat.lt_or_ge j qs.length with hjl | hjl
              · obtain ⟨g, gc, q, hge, hqc, hqk, hjq⟩ := PQ.qcell2 hP hjl
                have hC := HI.out.row t p qs h2 j hjl hB
                rw [show qs[j] = q by rw [List.getElem?_eq_getElem hjl] at hjq; simpa using hjq] at hC
                obtain ⟨rfl, -, rfl⟩ : la = some ⟨g, 0, none⟩ ∧ qs.length = qs.length ∧ lc = gc := by simpa using hge
                obtain ⟨_, b, off, _, hve, hga, hgc⟩ := HG.out.2
                simp only [Value.slice.injEq, true_and] at hve
                obtain ⟨hva, hvc⟩ := hve
                obtain ⟨hN2, hne2⟩ := HNN.out
                obtain ⟨hab, hbB⟩ := hga (by omega)
                rw [hab] at hva
                subst hva
                have hrow : RowCells wr.drew b (off + q * 20) G q := by
                  have := rowCells (W := w) hgc q (by omega)
                  intro jj hjj
                  rw [← this jj hjj]
                  exact (below_dr hP.bel).cell (p := ⟨b, off + q * 20 + jj, none⟩) (by exact hbB)
                have hrg := RowCells.range hrow
                have c0 : wr.drew.cell? ⟨N, 0, none⟩ = some (.slice (some ⟨b, off, none⟩) k cap) := hP.c0
                replace hqc : wr.drew.cell? ⟨g, j, none⟩ = some (.int .i64 (q : Int)) := hqc
                have j0 : 0 ≤ (j : Int) := by omega
                have jl : (j : Int) < (qs.length : Int) := by omega
                have q0 : 0 ≤ (q : Int) := by omega
                have qk : (q : Int) < (k : Int) := by omega
                have H5 := Lib.hid (And.intro hjq (And.intro (HP.out.1.kept (grownBy_drew _ none)) hC))
                clear hP hB hC hjq hge hga hgc hvc hN2 hne2 hab hbB hrow
                go_wp2
                refine wp_region_still_lit (by kernel_rfl) (by kernel_rfl) ?_
                repeat (first | (refine wpStill_load_row rfl 88 (.tmp 53) rfl b (off + q * 20) rfl (rowA G q) _ hrg Try.underlying88 rfl (by kernel_rfl) ?_) | (refine wpStill_step (fun K hK => ?_); go_simp; refine hK _ ?_; clear hK K))
                refine wpStill_nil ?_
                go_wp2
                clear hqc c0 hrg
                go_loopw [8, 55] (fun lv i wr => ∃ (qs : List Nat) (h : Nat → Int) (f : Nat), f ≤ 4 ∧ i = .int .i64 f ∧ qs[j]? = some q ∧ PQ w wr N k (.slice (some ⟨b, off, none⟩) k cap) lv qs h ∧ C t p qs h j q f) (fun _ i _ => 4 - (intOf i).toNat)
                case atStart => exact ⟨qs, h2, 0, by omega, rfl, H5.out⟩
                case round =>
                  clear H5
                  obtain ⟨qs', h3, f, hf, rfl, hjq, hP, hC⟩ := hrel
                  have hjl' := (List.getElem?_eq_some_iff.1 hjq).1
                  have HJ := Lib.hid (And.intro hjq hC)
                  clear hjq hC
                  obtain ⟨la', lc', rfl⟩ := ownsRow_form hP.own
                  have HP := Lib.hid hP
                  have HNE := Lib.hid HNN.out.2
                  have hlk' : qs'.length ≤ k := Nat.le_trans hP.cnt (nzc_le _ _)
                  rcases Nat.lt_or_ge f 4 with hf4 | hf4
                  · have hix := fun w => row_index G q f hf4 w
                    unfold faceA at hix
                    have hkk : 4 * q + f < 4 * G.n := by have := HNN.out.2; omega
                    obtain ⟨T, hT⟩ : ∃ T, T = G.tet (4 * q + f) := ⟨_, rfl⟩
                    have HTT := Lib.hid hT
                    rw [← hT] at hix
                    rcases Int.lt_or_le T 0 with hT0 | hT0
                    · have q1 : decide (0 ≤ T) = false := by simp; omega
                      clear hP hT
                      go_wp2
                      exact ⟨⟨qs', h3, f + 1, by omega, by simp, HJ.out.1, HP.out.kept (World.grownBy_alloc _ _ _), HI.out.skip t p qs' h3 j q f (by have := HNE.out; omega) hf4 HJ.out.2 (.inl (by rw [← HTT.out]; exact hT0))⟩, by simp [intOf]; omega⟩
                    · obtain ⟨e1, e2, _⟩ := ok_face HG.out.1 hkk (by omega)
                      obtain ⟨x, hx⟩ : ∃ x : Nat, T = (x : Int) ∧ x < k := ⟨G.T (4 * q + f), by rw [hT, e1], by have := HNN.out.2; omega⟩
                      obtain ⟨rfl, hxk⟩ := hx
                      have hrc := cell_al (hP.row.cell hxk)
                      have hrf : ∀ o, (wr.alloc o).frozen? ⟨N + 1, x, none⟩ = false := fun o => ((World.grownBy_alloc wr o none).frozen_far ⟨N + 1, x, none⟩ hP.row.lt (by simp)).trans (hP.row.frozen x)
                      obtain ⟨y, hy⟩ : ∃ y, y = h3 x := ⟨_, rfl⟩
                      rw [← hy] at hrc
                      have HY := Lib.hid hy
                      have q1 : decide (0 ≤ (x : Int)) = true := by simp
                      have x0 : 0 ≤ (x : Int) := by omega
                      have xk : (x : Int) < (k : Int) := by omega
                      clear hP hT e1 e2 hy
                      rcases Int.lt_or_le y 0 with hy0 | hy0
                      · have q2 : decide (y < 0) = true := by simpa using hy0
                        obtain ⟨j0, hj0, hz30, hz31, hz32⟩ := info_parts info3
                        have hlt1 := HP.out.row.lt
                        have hfc : ∀ u, ((wr.alloc (.cells #[.int .i64 (x : Int), .int .i64 (G.pm (4 * q + f) 0), .int .i64 (G.pm (4 * q + f) 1), .int .i64 (G.pm (4 * q + f) 2), .int .i64 (G.pm (4 * q + f) 3)] 87)).setCell ⟨N + 1, x, none⟩ u).cell? ⟨wr.heap.size, 0, none⟩ = some (.int .i64 (x : Int)) := fun u =>
                          (World.cell?_setCell_other (a := ⟨N + 1, x, none⟩) (b := ⟨wr.heap.size, 0, none⟩) _ _ (by simp <;> omega)).trans (World.cell?_alloc_at _ _ _ _ rfl)
                        have hne : (Value.slice la' qs'.length lc').ownBlock = none ∨ (Value.slice la' qs'.length lc').ownBlock ≠ some (N + 1) := .inr (fun e => by have := (HP.out.own.lt _ e).1; omega)
                        have hown := ((HP.out.own.kept (grownBy_setCell wr (N + 1) x (.int .i64 (p : Int))) hne).alloc (.cells #[.int .i64 (x : Int), .int .i64 (G.pm (4 * q + f) 0), .int .i64 (G.pm (4 * q + f) 1), .int .i64 (G.pm (4 * q + f) 2), .int .i64 (G.pm (4 * q + f) 3)] 87)).alloc (.cells #[.int .i64 (x : Int)] 3)
                        have hnews := World.news_of_block (cs := #[.int .i64 (x : Int)]) (MapKept.heap_alloc ((wr.setCell ⟨N + 1, x, none⟩ (.int .i64 (p : Int))).alloc (.cells #[.int .i64 (x : Int), .int .i64 (G.pm (4 * q + f) 0), .int .i64 (G.pm (4 * q + f) 1), .int .i64 (G.pm (4 * q + f) 2), .int .i64 (G.pm (4 * q + f) 3)] 87)) (.cells #[.int .i64 (x : Int)] 3)).1
                        simp only [World.size_setCell, World.size_alloc] at hnews
                        have HA := Lib.hid (And.intro True.intro (And.intro hown hnews))
                        clear hown hnews hne
                        generalize G.pm (4 * q + f) 0 = g0 at *
                        generalize G.pm (4 * q + f) 1 = g1 at *
                        generalize G.pm (4 * q + f) 2 = g2 at *
                        generalize G.pm (4 * q + f) 3 = g3 at *
                        go_wp2_with (at_builtin; refine (wpList_append_lies _ rfl (.tmp 74) (.tmp 77) 35 rfl (N + 2) 3 j0 _ 1 8 und35 hj0 hz30 hz31 hz32 rfl (by omega) (.slice la' qs'.length lc') qs'.length _ rfl HA.out.2.1 ⟨wr.heap.size + 1, 0, none⟩ 1 1 [.int .i64 (x : Int)] rfl rfl HA.out.2.2 (by simp [Value.oneCell']) (by omega) (by unfold maxLen; omega) (by omega) (by simp; omega) (wr.heap.size + 1 + 1) (by simp) ?_); intro g9 c9 w9 r1 r2 r3 r4; have HR := Lib.hid (And.intro r1 r2); clear r1 r2 r3 r4)
                        exact ⟨⟨qs' ++ [x], _, f + 1, by omega, by simp, by rw [List.getElem?_append_left hjl']; exact HJ.out.1, HP.out.push hxk (by rw [← HY.out]; exact hy0) (by omega : (0 : Int) ≤ (p : Int)) (grownBy_trans (World.grownBy_alloc _ _ _) (World.grownBy_alloc _ _ _)) HR.out.1 HR.out.2, HI.out.push t p qs' h3 j q f x (by have := HNE.out; omega) hf4 HJ.out.2 HTT.out.symm (by have := HNE.out; omega) (by rw [← HY.out]; exact hy0)⟩, by simp [intOf]; omega⟩
                      · have q2 : decide (y < 0) = false := by simp; omega
                        go_wp2
                        exact ⟨⟨qs', h3, f + 1, by omega, by simp, HJ.out.1, HP.out.kept (World.grownBy_alloc _ _ _), HI.out.skip t p qs' h3 j q f (by have := HNE.out; omega) hf4 HJ.out.2 (.inr ⟨x, HTT.out.symm, by have := HNE.out; omega, by rw [← HY.out]; exact hy0⟩)⟩, by simp [intOf]; omega⟩
                  · obtain rfl : f = 4 := by omega
                    clear hP
                    go_wp2
                    exact ⟨⟨qs', h3, j + 1, by omega, by simp, HP.out, HI.out.next t p qs' h3 j q HJ.out.2⟩, by simp [intOf]; omega⟩
              · obtain rfl : j = qs.length := by omega
                clear hP hB
                go_wp2
                exact ⟨⟨t + 1, p + 1, _, by omega, by omega, by simp, by simp, HI.out.done t p qs h2 (by have := HNN.out.2; omega) HP.out.2, HP.out.1.row, HP.out.1.sv, HP.out.1.c0, HP.out.1.bel⟩, by simp [intOf]; omega⟩
          · have q1 : decide (0 ≤ z) = true := by simp; omega
            go_wp2
            exact ⟨⟨t + 1, p, h, by omega, by omega, by simp, rfl, HI.out.met t p h (by have := HNN.out.2; omega) HK.out.2.2.2.2 (by rw [← HZ.out]; exact hz0), HK.out.1, HK.out.2.1, HK.out.2.2.1, HK.out.2.2.2.1⟩, by simp [intOf]; omega⟩
        · obtain rfl : t = k := by omega
          clear hr hsv hc hb hA
          go_wp2
          go_ret2
          exact ⟨N + 1, p, h, rfl, HK.out.1, HK.out.2.2.2.2, HK.out.2.2.2.1⟩

set_option maxRecDepth 100000 in
set_option maxHeartbeats 1000000 in
/-- glue.Parts of a valid gluing -/
theorem PParts_walk (G : Gl) (hok : checkB G = true) (v : Value) (w : World) (hG : GlAt w.heap.size w v G) :
    Calls Try.prog 67 #[.agg #[v]] w fun e w' => ∃ (d : Nat) (h : Nat → Int), e = .returned (.tuple #[.slice (some ⟨d, 0, none⟩) G.n G.n, .int .i64 0]) ∧ IntRow w' d G.n h ∧ (∀ u, u < G.n → h u = ptN G u) ∧ Below w.heap.size w w' := by
  have HG := Lib.hid hG
  obtain ⟨a, cap, rfl⟩ : ∃ a cap, v = .slice a G.n cap := by obtain ⟨a, _, _, cap, e, _⟩ := hG; exact ⟨a, cap, e⟩
  clear hG
  go_enter Try.func67, Try.ntmps67
  go_wp2_with fail
  refine wp_world_named fun W0 hW => ?_
  have hb : Below w.heap.size w W0 ∧ W0.cell? ⟨w.heap.size, 0, none⟩ = some (.slice a G.n cap) := by rw [hW]; exact ⟨by (repeat' (first | assumption | exact Below.refl _ _ | refine below_then ?_ (by assumption) | refine below_al ?_ _ | refine below_dr ?_ | refine below_sc ?_ (by simp <;> omega) _)), by simp [go_sem]⟩
  clear hW
  refine (Check_walk G (.slice a G.n cap) W0 ((HG.out.below hb.1).mono hb.1.size) (by have := hok; simp [checkB] at this; omega)).mono ?_
  rintro e W1 ⟨rfl, hb1⟩
  have x1 := (hb1.cell (p := ⟨w.heap.size, 0, none⟩) (lt_of_cell hb.2)).trans hb.2
  have hbw := hb.1.trans (hb1.mono hb.1.size)
  have HB := Lib.hid hbw
  clear hb hb1 hbw
  have e7 : checkI G = 0 := by simp [checkI, hok]
  rw [e7]
  have h109 := pparts_walk G hok (parts_inv hok) (.slice a G.n cap) W1 ((HG.out.below HB.out).mono HB.out.size)
  have H109 := Lib.hid h109
  have HK := Lib.hid hok
  clear hok e7 h109
  go_wp2_with fail
  refine H109.out.mono ?_
  rintro e W2 ⟨d, p, h, rfl, hr, hA, hb2⟩
  have hh : ∀ u, u < G.n → h u = ptN G u := fun u hu => by
    rw [hA.2 u hu, if_pos (.inl (by have := pt_le HK.out hu; omega))]
  have H2 := Lib.hid (And.intro hr (And.intro hh hb2))
  clear hr hb2 hA hh
  go_wp2
  go_ret2
  exact ⟨d, h, rfl, H2.out.1, H2.out.2.1, HB.out.trans (H2.out.2.2.mono HB.out.size)⟩
end Go.Proofs.Ytlckpgahijlmoaa
namespace Go.Proofs.Ytlckpgahijlmoaa
open Go.RowKit Go.Shelf Go.Maps

/-- the sheet 0 -/
theorem Dk.id {H : Gl} (hok : checkB H = true) : Dk H 0 (fun u => u) :=
  ⟨rfl, fun _ h => h, fun q f hq hf ht => (ok_face hok (by omega) ht).1⟩

set_option maxRecDepth 100000 in
set_option maxHeartbeats 2000000 in
theorem pdeck_walk (G : Gl) (hok : checkB G = true) (hone : oneB G = true) (n0 t1 : Nat) (hO : Over G n0) (hn : G.n ≤ 1000) (hto : t1 < G.n) (htm : t1 % n0 = 0) (v : Value) (w : World) (hG : GlAt w.heap.size w v G) :
    Calls Try.prog 68 #[.agg #[v], .int .i64 (t1 : Int)] w fun e w' => e = .returned (.bool (boolOf (∃ σ, Dk G t1 σ))) ∧ Below w.heap.size w w' := by
  have hmm := @run_makeMap Try.prog
  have HOK := Lib.hid (And.intro hok hone)
  have HS := Lib.hid (show DV G n0 t1 [0] (fun u => (if u = 0 then (t1 : Int) + 1 else 0) - 1) 0 0 by
    have := DV.start (H := G) hto htm
    rwa [show (fun i => if i = 0 then (t1 : Int) else -1) = fun (u : Nat) => (if u = 0 then (t1 : Int) + 1 else 0) - 1 from funext fun u => by split <;> omega] at this)
  clear hok hone
  have HG := Lib.hid (And.intro hO (And.intro htm hG))
  obtain ⟨a, cap, rfl⟩ : ∃ a cap, v = .slice a G.n cap := by obtain ⟨a, _, _, cap, e, _⟩ := hG; exact ⟨a, cap, e⟩
  clear hO htm hG
  generalize hN : w.heap.size = N at *
  obtain ⟨n, hne⟩ : ∃ n, n = G.n := ⟨_, rfl⟩
  rw [← hne] at hn hto ⊢
  have HNN := Lib.hid (And.intro hN hne)
  clear hne
  have hmd : MapIs ((w.alloc (.cells #[.slice a n cap] 24)).alloc (.map #[] 0)) 3 okI mI mI (N + 1) 0 (fun _ => none) := by
    have := MapIs.made (k := 3) (ok := okI) (κ := mI) (ν := mI) (w.alloc (.cells #[.slice a n cap] 24))
    simpa [hN] using this
  have hcc : ((w.alloc (.cells #[.slice a n cap] 24)).alloc (.map #[] 0)).cell? ⟨N, 0, none⟩ = some (.slice a n cap) := cell_al (World.cell?_alloc_at _ _ _ _ hN.symm) _
  have hbb : Below N w ((w.alloc (.cells #[.slice a n cap] 24)).alloc (.map #[] 0)) := by subst hN; (repeat' (first | assumption | exact Below.refl _ _ | refine below_then ?_ (by assumption) | refine below_al ?_ _ | refine below_dr ?_ | refine below_sc ?_ (by simp <;> omega) _))
  have H0 := Lib.hid (And.intro hmd (And.intro hcc hbb))
  clear hmd hcc hbb
  go_enter Try.func68, Try.ntmps68
  go_wp2_with (first
    | (refine wpList_insert (a := (0 : Nat)) (c := t1) (κ := mI) (ν := mI) (D := fun _ => none) (ok := okI) (k := 3) rfl 181 (.tmp 14) (.const (.int .i64 0)) (.tmp 15) rfl codesI und181 H0.out.1 okI0 rfl rfl rfl ?_; intro W1 h1 h2 h3; have H1 := Lib.hid (And.intro h1 (And.intro h2 h3)); clear h1 h2 h3))
  obtain ⟨D, hD⟩ : ∃ D, D = W1.heap.size := ⟨_, rfl⟩
  rw [← hD]
  refine wp_named fun W2 hW2 => ?_
  have hQ : DQ w W2 N n n0 (.slice a n cap) (.slice (some ⟨D, 0, none⟩) 1 1) [0] (fun i => if i = 0 then (t1 : Int) + 1 else 0) := by
    obtain ⟨h1, h2, h3⟩ := H1.out
    obtain ⟨m1, cc, bb⟩ := H0.out
    have hs1 : W1.heap.size = N + 2 := by rw [h3]; simp [hN]
    have hal := World.grownBy_alloc W1 (.cells #[.int .i64 0] 3) none
    rw [← hW2] at hal
    have hown := World.ownsRow_lit (base := N + 2) (e := 3) (size := 1) W1 #[.int .i64 0] 1 (by omega) (by decide) rfl
    rw [← hW2, ← hD] at hown
    refine ⟨hown, ⟨_, (h1.kept hal (by simp)).congr (fun x => ?_)⟩, fun q hq => ?_, fun x hx => ?_, ?_, hal.cell (h2.cell cc (by simp)) (by simp), (bb.grown h2 (by simp; omega) (fun r e => by cases e; omega)).grown hal (by omega) (fun r e => by cases e)⟩
    · by_cases e : x = 0
      · have : (t1 : Int) + 1 ≠ 0 := by omega
        simp [dkD, e, this]
      · simp [dkD, e]
    · simp at hq; subst hq; exact ⟨by omega, by simp only [if_true]; omega⟩
    · by_cases e : x = 0
      · subst e
        simp only [if_true]
        exact ⟨by omega, by omega, by omega, by rw [show ((t1 : Int) + 1 - 1).toNat = t1 by omega, HG.out.2.1]; simp⟩
      · simp [e] at hx
    · have := nzc_set (s := fun _ => 0) (m := n) (j := 0) (x := (t1 : Int) + 1) (by omega) rfl (by omega)
      rw [this]; simp
  have HQ := Lib.hid hQ
  clear hQ hW2 hD
  go_loopw [6, 7] (fun lv i wr => ∃ (qs : List Nat) (h : Nat → Int) (j : Nat), j ≤ qs.length ∧ i = .int .i64 j ∧ DQ w wr N n n0 (.slice a n cap) lv qs h ∧ DV G n0 t1 qs (fun u => h u - 1) j 0) (fun _ i _ => n - (intOf i).toNat)
  case atStart => exact ⟨_, _, 0, by omega, rfl, HQ.out, HS.out⟩
  case round =>
    clear HQ
    obtain ⟨qs, h2, j, hj, rfl, hP, hDV⟩ := hrel
    have HD := Lib.hid hDV
    clear hDV
    obtain ⟨la, lc, rfl⟩ := ownsRow_form hP.own
    have HP := Lib.hid hP
    have hlk : qs.length ≤ n := Nat.le_trans hP.cnt (nzc_le _ _)
    rcases Nat.lt_or_ge j qs.length with hjl | hjl
    · obtain ⟨q, hq⟩ : ∃ q, qs[j]? = some q := ⟨_, List.getElem?_eq_getElem hjl⟩
      obtain ⟨g, gc, hge, hqc, hqk, -⟩ := hP.qcell hq
      obtain ⟨rfl, -, rfl⟩ : la = some ⟨g, 0, none⟩ ∧ qs.length = qs.length ∧ lc = gc := by simpa using hge
      obtain ⟨_, b, off, _, hve, hga, hgc⟩ := HG.out.2.2
      simp only [Value.slice.injEq, true_and] at hve
      obtain ⟨hva, hvc⟩ := hve
      obtain ⟨hN2, hne2⟩ := HNN.out
      obtain ⟨hab, hbB⟩ := hga (by omega)
      rw [hab] at hva
      subst hva
      have hrow : RowCells wr b (off + q * 20) G q := by
        have := rowCells (W := w) hgc q (by omega)
        intro jj hjj
        rw [← this jj hjj]
        exact hP.bel.cell (p := ⟨b, off + q * 20 + jj, none⟩) (by exact hbB)
      have hrg := RowCells.range hrow
      have c0 : wr.cell? ⟨N, 0, none⟩ = some (.slice (some ⟨b, off, none⟩) n cap) := hP.c0
      have j0 : 0 ≤ (j : Int) := by omega
      have jl : (j : Int) < (qs.length : Int) := by omega
      have q0 : 0 ≤ (q : Int) := by omega
      have qk : (q : Int) < (n : Int) := by omega
      have HGC := Lib.hid (And.intro hbB hgc)
      have H5 := Lib.hid (And.intro HP.out hq)
      clear HP hge hga hgc hvc hN2 hne2 hab hbB hrow hq hP
      go_wp2_with (refine wpList_load_row' rfl 88 (.tmp 31) rfl b (off + q * 20) rfl (rowA G q) _ hrg Try.underlying88 rfl (by kernel_rfl) ?_)
      clear hqc c0 hrg
      go_loopw [6, 33] (fun lv i wr => ∃ (qs : List Nat) (h : Nat → Int) (f : Nat), f ≤ 4 ∧ i = .int .i64 f ∧ qs[j]? = some q ∧ DQ w wr N n n0 (.slice (some ⟨b, off, none⟩) n cap) lv qs h ∧ DV G n0 t1 qs (fun u => h u - 1) j f) (fun _ i _ => 4 - (intOf i).toNat)
      case atStart => exact ⟨qs, h2, 0, by omega, rfl, H5.out.2, H5.out.1, HD.out⟩
      case round =>
        clear H5
        obtain ⟨qs', h3, f, hf, rfl, hjq, hP, hDV⟩ := hrel
        clear HD
        have HD := Lib.hid hDV
        clear hDV
        obtain ⟨la', lc', rfl⟩ := ownsRow_form hP.own
        have HP := Lib.hid (And.intro hP hjq)
        have hlk' : qs'.length ≤ n := Nat.le_trans hP.cnt (nzc_le _ _)
        rcases Nat.lt_or_ge f 4 with hf4 | hf4
        · have hix := fun w => row_index G q f hf4 w
          unfold faceA at hix
          have hkk : 4 * q + f < 4 * G.n := by have := HNN.out.2; omega
          obtain ⟨T, hT⟩ : ∃ T, T = G.tet (4 * q + f) := ⟨_, rfl⟩
          have HTT := Lib.hid hT
          rw [← hT] at hix
          rcases Int.lt_or_le T 0 with hT0 | hT0
          · have q1 : decide (T < 0) = true := by simpa using hT0
            clear hP hT hjq
            go_wp2
            exact ⟨⟨qs', h3, f + 1, by omega, by simp, HP.out.2, HP.out.1.kept (World.grownBy_alloc _ _ _), HD.out.skip HP.out.2 (by rw [← HTT.out]; exact hT0)⟩, by simp [intOf]; omega⟩
          · have hnn := HNN.out.2
            obtain ⟨x, rfl⟩ : ∃ x : Nat, T = (x : Int) := ⟨T.toNat, by omega⟩
            have hxn : x < n := by have := HG.out.1.lt _ hkk (by omega); rw [← hT] at this; simp at this; omega
            obtain ⟨_, hqz⟩ := hP.qlt q (List.mem_of_getElem? hjq)
            obtain ⟨_, hq1, hq2, hq3⟩ := hP.him q hqz
            obtain ⟨bb, hbb⟩ : ∃ bb, bb = (h3 q - 1).toNat := ⟨_, rfl⟩
            rw [← hbb] at hq2 hq3
            have hsg := HG.out.1.sgn q bb f (by omega) (by omega) hf4 hq3
            have hmd := HG.out.1.mod q bb f (by omega) (by omega) hf4 hq3 (by omega)
            have hkb : 4 * bb + f < 4 * G.n := by omega
            obtain ⟨Y, hY⟩ : ∃ Y, Y = G.tet (4 * bb + f) := ⟨_, rfl⟩
            have hYp : ¬ Y < 0 := by rw [hY, ← hsg]; omega
            obtain ⟨y, rfl⟩ : ∃ y : Nat, Y = (y : Int) := ⟨Y.toNat, by omega⟩
            have hyn : y < n := by have := HG.out.1.lt _ hkb (by omega); rw [← hY] at this; simp at this; omega
            rw [← hT, ← hY] at hmd
            simp only [Int.toNat_natCast] at hmd
            have fb := HGC.out.2 (4 * bb + f) hkb
            rw [← hY] at fb
            have fw : ∀ o x, w.cell? ⟨b, o, none⟩ = some x → ∀ ob, (wr.alloc ob).cell? ⟨b, o, none⟩ = some x := fun o x hx => cell_al ((hP.bel.cell (p := ⟨b, o, none⟩) (by exact HGC.out.1)).trans hx)
            rw [show off + 5 * (4 * bb + f) = off + bb * 20 + f * 5 by omega] at fb
            have p0 := fw _ _ fb.1
            have p1 := fw _ _ (fb.2 0 (by omega))
            have p2 := fw _ _ (fb.2 1 (by omega))
            have p3 := fw _ _ (fb.2 2 (by omega))
            have p4 := fw _ _ (fb.2 3 (by omega))
            rw [Nat.add_zero] at p1
            have cN := cell_al hP.c0
            obtain ⟨nn, himg⟩ := hP.img
            have okx : okI x := by show x < 9223372036854775808; omega
            have okq : okI q := by show q < 9223372036854775808; omega
            have hl1 : ∀ o, (Instr.lookup 181 (.map (some (N + 1))) (.int .i64 (q : Int)) false).run Try.prog (wr.alloc o) = .ok (.int .i64 (bb : Int)) (wr.alloc o) := fun o => by
              have := (himg.kept (World.grownBy_alloc wr o none) (by simp)).look codesI und181 (zero3 _) false q okq
              unfold mI at this
              rw [this]
              simp [dkD, hqz, ← hbb]
            have hl2 : ∀ o o2, (Instr.lookup 181 (.map (some (N + 1))) (.int .i64 (x : Int)) true).run Try.prog ((wr.alloc o).alloc o2) = .ok (if h3 x = 0 then .tuple #[.int .i64 0, .bool false] else .tuple #[.int .i64 ((h3 x - 1).toNat : Nat), .bool true]) ((wr.alloc o).alloc o2) := fun o o2 => by
              have := ((himg.kept (World.grownBy_alloc wr o none) (by simp)).kept (World.grownBy_alloc _ o2 none) (by simp)).look codesI und181 (zero3 _) true x okx
              unfold mI at this
              rw [this]
              by_cases e : h3 x = 0 <;> simp [dkD, e]
            have HV := Lib.hid (And.intro (show ¬ G.tet (4 * q + f) < 0 by rw [← HTT.out]; omega) (And.intro (show G.T (4 * q + f) = x by rw [Gl.T, ← HTT.out]; simp) (And.intro (show h3 q - 1 = (bb : Nat) by omega) (And.intro (show G.tet (4 * bb + f) = (y : Nat) from hY.symm) (And.intro (show x < G.n by omega) (And.intro (show y < G.n by omega) (show y % n0 = x % n0 from hmd.symm)))))))
            have HM := Lib.hid (And.intro (fun o o2 => (himg.kept (World.grownBy_alloc wr o none) (by simp)).kept (World.grownBy_alloc (wr.alloc o) o2 none) (by simp)) hmd)
            have q1 : decide ((x : Int) < 0) = false := by simp
            have b0 : 0 ≤ (bb : Int) := by omega
            have bn : (bb : Int) < (n : Int) := by omega
            have f0 : 0 ≤ (f : Int) := by omega
            have f4 : (f : Int) < 4 := by omega
            have hA1 : N + 1 < wr.heap.size := himg.lt
            clear hP hT hjq hnn hqz hq1 hq2 hq3 hbb hsg hmd hkb hY hYp fb fw himg okq
            by_cases hh : h3 x = 0
            · simp only [hh, if_true] at hl2
              have HH := Lib.hid hh
              have HPU := Lib.hid (show DV G n0 t1 (qs' ++ [x]) (fun u => (if u = x then (y : Int) + 1 else h3 u) - 1) j (f + 1) by
                have := HD.out.push HP.out.2 hf4 HV.out.1 (by rw [HV.out.2.1]; exact HV.out.2.2.2.2.1) HV.out.2.2.1 HV.out.2.2.2.1 HV.out.2.2.2.2.2.1 (by rw [HV.out.2.1]; exact HV.out.2.2.2.2.2.2) (by rw [HV.out.2.1, hh]; omega)
                rw [HV.out.2.1] at this
                rwa [show (fun i => if i = x then (y : Int) else h3 i - 1) = fun (u : Nat) => (if u = x then (y : Int) + 1 else h3 u) - 1 from funext fun u => by split <;> omega] at this)
              clear hh
              obtain ⟨j0', hj0, hz30, hz31, hz32⟩ := info_parts info3
              have hown := HP.out.1.own
              have fa0 : ∀ o, ((wr.alloc (.cells #[.int .i64 (x : Int), .int .i64 (G.pm (4 * q + f) 0), .int .i64 (G.pm (4 * q + f) 1), .int .i64 (G.pm (4 * q + f) 2), .int .i64 (G.pm (4 * q + f) 3)] 87)).alloc o).cell? ⟨wr.heap.size, 0, none⟩ = some (.int .i64 (x : Int)) := fun o => cell_al ((World.cell?_alloc_at _ _ _ _ rfl).trans rfl) o
              have n1 : some wr.heap.size ≠ some (N + 1) := fun e => by have := Option.some.inj e; omega
              have HO := Lib.hid (And.intro hown (And.intro fa0 n1))
              clear hown fa0 n1
              go_wp2_with (first
                | (refine wpList_put (a := x) (c := y) (κ := mI) (ν := mI) rfl 181 (.tmp 58) (.tmp 60) (.tmp 62) rfl codesI und181 (HM.out.1 _ _) okx rfl rfl rfl ?_; intro W3 m1 m2 m3; have y3 := m2.cell (HO.out.2.1 _) HO.out.2.2; have H3 := Lib.hid (And.intro m1 (And.intro m2 m3)); clear m1 m2 m3)
                | (at_builtin; refine (wpList_append_lies _ rfl (.tmp 63) (.tmp 66) 35 rfl (N + 2) 3 j0' _ 1 8 und35 hj0 hz30 hz31 hz32 rfl (by omega) (.slice la' qs'.length lc') qs'.length _ rfl ((((HO.out.1.alloc _).alloc _).kept H3.out.2.1 (.inr (fun e => by have := (HO.out.1.lt _ e).1; omega))).alloc _) ⟨W3.heap.size, 0, none⟩ 1 1 [.int .i64 (x : Int)] rfl rfl (World.news_of_block (cs := #[.int .i64 (x : Int)]) (MapKept.heap_alloc W3 _).1) (by simp [Value.oneCell']) (by omega) (by unfold maxLen; omega) (by omega) (by have := H3.out.2.1.size; simp at this ⊢; omega) (W3.heap.size + 1) (by simp) ?_); intro g9 c9 w9 r1 r2 r3 r4; have H9 := Lib.hid (((HP.out.1.kept (World.grownBy_alloc wr _ none)).kept (World.grownBy_alloc _ _ none)).push hxn hyn HM.out.2 HH.out H3.out.1 H3.out.2.1 (World.grownBy_alloc W3 _ none) r1 r2); clear r1 r2 r3 r4))
              exact ⟨⟨qs' ++ [x], _, f + 1, by omega, by simp, by rw [List.getElem?_append_left (List.getElem?_eq_some_iff.1 HP.out.2).1]; exact HP.out.2, by simpa using H9.out, HPU.out⟩, by simp [intOf]; omega⟩
            · simp only [hh, if_false] at hl2
              obtain ⟨z, hz⟩ : ∃ z, z = (h3 x - 1).toNat := ⟨_, rfl⟩
              rw [← hz] at hl2
              have hxz : 0 < h3 x ∧ h3 x - 1 = z := by have := (HP.out.1.him x hh).2.1; omega
              have HZZ := Lib.hid hxz
              clear hh hz hxz
              by_cases hzy : z = y
              · have q2 : ((z : Int) != (y : Int)) = false := by simp; omega
                have HE := Lib.hid hzy
                go_wp2
                exact ⟨⟨qs', h3, f + 1, by omega, by simp, HP.out.2, (HP.out.1.kept (World.grownBy_alloc _ _ _)).kept (World.grownBy_alloc _ _ _), HD.out.same HP.out.2 HV.out.2.2.1 (by rw [HV.out.2.1]; have := HZZ.out; omega) (by rw [HV.out.2.1, HV.out.2.2.2.1]; have := HZZ.out; have := HE.out; omega)⟩, by simp [intOf]; omega⟩
              · have q2 : ((z : Int) != (y : Int)) = true := by simp; omega
                have HE := Lib.hid hzy
                go_wp2
                go_ret
                refine ⟨?_, ((HP.out.1.kept (World.grownBy_alloc _ _ _)).kept (World.grownBy_alloc _ _ _)).bel⟩
                rw [boolOf_false (fun ⟨σ, hσ⟩ => HD.out.clash HP.out.2 hf4 (by have := HV.out.1; omega) (by rw [HV.out.2.1]; exact HV.out.2.2.2.2.1) HV.out.2.2.1 (by rw [HV.out.2.1]; have := HZZ.out; omega) (by rw [HV.out.2.1, HV.out.2.2.2.1]; have := HZZ.out; have := HE.out; omega) σ hσ)]
                rfl
        · obtain rfl : f = 4 := by omega
          clear hP hjq
          go_wp2
          have := (List.getElem?_eq_some_iff.1 HP.out.2).1
          exact ⟨⟨qs', h3, j + 1, by omega, by simp, HP.out.1, HD.out.next⟩, by simp [intOf]; omega⟩
    · obtain rfl : j = qs.length := by omega
      clear hP
      go_wp2
      go_ret
      exact ⟨by rw [boolOf_true ⟨_, HD.out.done HOK.out.1 HOK.out.2⟩]; rfl, HP.out.bel⟩
end Go.Proofs.Ytlckpgahijlmoaa
