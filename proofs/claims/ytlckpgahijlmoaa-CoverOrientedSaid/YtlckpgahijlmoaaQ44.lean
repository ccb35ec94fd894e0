/- glue.parts and Parts: numbers, one for each tetrahedron. -/
import Derived.Test.YtlckpgahijlmoaaQ21
import Derived.Test.YtlckpgahijlmoaaQ24
import Derived.Laws.OwnMore
namespace Go.Proofs.Ytlckpgahijlmoaa
open Go.RowKit Go.Shelf

/-- the numbers of the parts and the list at hand -/
structure PQ (w W : World) (N n : Nat) (v qv : Value) (qs : List Nat) (h : Nat → Int) : Prop where
  own : W.ownsRow (N + 2) 3 1 qv qs.length (qs.map fun (q : Nat) => Value.int .i64 (q : Int))
  row : IntRow W (N + 1) n h
  sv : ∀ j, j < n → -1 ≤ h j
  qlt : ∀ q ∈ qs, q < n
  cnt : qs.length ≤ nzc (fun j => h j + 1) n
  c0 : W.cell? ⟨N, 0, none⟩ = some v
  bel : Below N w W
theorem PQ.kept {w W W' : World} {N n : Nat} {v qv : Value} {qs : List Nat} {h : Nat → Int} (hq : PQ w W N n v qv qs h) (hg : W.grownBy W' none) : PQ w W' N n v qv qs h :=
  ⟨hq.own.kept hg (by cases qv.ownBlock <;> simp), rowIs_kept hq.row hg (by simp), hq.sv, hq.qlt, hq.cnt, hg.cell hq.c0 (by simp), hq.bel.grown hg (by have := lt_of_cell hq.c0; simp only at this; omega) (fun k e => by cases e)⟩
theorem PQ.qcell {w W : World} {N n : Nat} {v qv : Value} {qs : List Nat} {h : Nat → Int} (hq : PQ w W N n v qv qs h) {k : Nat} (hk : k < qs.length) : ∃ g cap q, qv = .slice (some ⟨g, 0, none⟩) qs.length cap ∧ W.cell? ⟨g, k, none⟩ = some (.int .i64 ((q : Nat) : Int)) ∧ q < n := by
  obtain ⟨g, cap, hv, _⟩ := hq.own.form (by omega)
  refine ⟨g, cap, qs[k], hv, ?_, hq.qlt _ (List.getElem_mem hk)⟩
  have := hq.own.cells (g := g) (by rw [hv]; rfl) k (.int .i64 (qs[k] : Nat)) (by simp [hk])
  rwa [Addr.add_mid, Nat.zero_add] at this
/-- a tetrahedron is numbered and goes onto the list -/
theorem PQ.push {w W W2 w1 : World} {N n g cap : Nat} {v qv : Value} {qs : List Nat} {h : Nat → Int} (hq : PQ w W N n v qv qs h) {j : Nat} (hj : j < n) (h0 : h j < 0) {x : Int} (hx : 0 ≤ x) (hg : (W.setCell ⟨N + 1, j, none⟩ (.int .i64 x)).grownBy W2 none)
    (a1 : w1.ownsRow (N + 2) 3 1 (.slice (some ⟨g, 0, none⟩) (qs.length + 1) cap) (qs.length + 1) ((qs.map fun (q : Nat) => Value.int .i64 (q : Int)) ++ [.int .i64 (j : Int)])) (a2 : W2.grownBy w1 qv.ownBlock) :
    PQ w w1 N n v (.slice (some ⟨g, 0, none⟩) (qs.length + 1) cap) (qs ++ [j]) (fun i => if i = j then x else h i) := by
  have hlo : ∀ b, qv.ownBlock = some b → N + 2 ≤ b := fun b e => (hq.own.lt b e).1
  have n1 : some (N + 1) ≠ qv.ownBlock := fun e => by have := hlo _ e.symm; omega
  have n0 : some N ≠ qv.ownBlock := fun e => by have := hlo _ e.symm; omega
  have hs := grownBy_setCell W (N + 1) j (.int .i64 x)
  have h1 : (W.setCell ⟨N + 1, j, none⟩ (.int .i64 x)).rowIs (N + 1) 3 n (fun i => .int .i64 (if i = j then x else h i)) := (hq.row.set j _).congr (fun i _ => by by_cases e : i = j <;> simp [e])
  have hm1 : h j = -1 := by have := hq.sv j hj; omega
  refine ⟨by simpa using a1, rowIs_kept (rowIs_kept h1 hg (by simp)) a2 n1, fun i hi => ?_, fun q hm => ?_, ?_, a2.cell (hg.cell (hs.cell hq.c0 (by simp)) (by simp)) n0, ?_⟩
  · by_cases e : i = j
    · simp only [e, if_true]; omega
    · simp only [e, if_false]; exact hq.sv i hi
  · rcases List.mem_append.1 hm with q1 | q1
    · exact hq.qlt q q1
    · simp at q1; omega
  · have e : (fun i => (if i = j then x else h i) + 1) = fun i => if i = j then x + 1 else h i + 1 := by
      funext i; split <;> rfl
    rw [e, nzc_set (s := fun i => h i + 1) hj (by omega) (by omega)]
    have := hq.cnt
    simp; omega
  · have hN := lt_of_cell hq.c0
    simp only at hN
    have hz := hg.size
    simp at hz
    exact ((hq.bel.setCell (by show N ≤ N + 1; omega) _).grown hg (by simp; omega) (fun k e => by cases e)).grown a2 (by omega) (fun k e => by have := hlo k e; omega)

set_option maxRecDepth 100000 in
set_option maxHeartbeats 2000000 in
theorem parts_walk (G : Gl) (hok : checkB G = true) (v : Value) (w : World) (hG : GlAt w.heap.size w v G) :
    Calls Try.prog 109 #[.agg #[v]] w fun e w' => ∃ d p h, e = .returned (.tuple #[.slice (some ⟨d, 0, none⟩) G.n G.n, .int .i64 p]) ∧ IntRow w' d G.n h ∧ Below w.heap.size w w' := by
  have hn : G.n ≤ 1000 := by simp only [checkB, Bool.and_eq_true, decide_eq_true_eq] at hok; exact hok.1
  have hmk := run_make_row' (P := Try.prog) 35 3 (.int .i64 0) 8 und35 info3 rfl .i64 .i64 G.n (by omega) (by omega)
  have HG := Lib.hid (And.intro hok hG)
  obtain ⟨a, cap, rfl⟩ : ∃ a cap, v = .slice a G.n cap := by obtain ⟨a, _, _, cap, e, _⟩ := hG; exact ⟨a, cap, e⟩
  clear hok hG
  generalize hN : w.heap.size = N at *
  obtain ⟨n, hne⟩ : ∃ n, n = G.n := ⟨_, rfl⟩
  rw [← hne] at hn hmk ⊢
  have HNN := Lib.hid (And.intro hN hne)
  clear hne
  go_enter Try.func109, Try.ntmps109
  go_wp2
  refine wp_named fun W1 hW => ?_
  have h1 : IntRow W1 (N + 1) n (fun i => if i < 0 then -1 else 0) ∧ W1.cell? ⟨N, 0, none⟩ = some (.slice a n cap) ∧ Below N w W1 := by
    subst hN
    have := World.rowIs_made (w.alloc (.cells #[.slice a n cap] 24)) (.int .i64 0) n 3
    simp only [World.size_alloc] at this
    rw [hW]
    exact ⟨this.congr (fun i _ => by simp), by simp [go_sem], by (repeat' (first | assumption | exact Below.refl _ _ | refine below_then ?_ (by assumption) | refine below_al ?_ _ | refine below_dr ?_ | refine below_sc ?_ (by simp <;> omega) _))⟩
  have H1 := Lib.hid h1
  clear h1 hW hmk
  go_loopw [18] (fun i wr => ∃ k : Nat, k ≤ n ∧ i = .int .i64 k ∧ IntRow wr (N + 1) n (fun i => if i < k then -1 else 0) ∧ wr.cell? ⟨N, 0, none⟩ = some (.slice a n cap) ∧ Below N w wr) (fun i _ => n - (intOf i).toNat)
  case atStart => exact ⟨0, by omega, rfl, H1.out⟩
  case round =>
    clear H1
    obtain ⟨k, hk, rfl, hr, hc, hb⟩ := hrel
    have HK := Lib.hid (And.intro hr (And.intro hc hb))
    rcases Nat.lt_or_ge k n with hkn | hkn
    · have ck := hr.cell hkn
      have fk := hr.frozen k
      clear hr hb
      go_wp2
      refine ⟨⟨k + 1, by omega, by simp, (HK.out.1.set k _).congr (fun i _ => ?_), (grownBy_setCell wr (N + 1) k _).cell HK.out.2.1 (by simp), HK.out.2.2.setCell (by show N ≤ N + 1; omega) _⟩, by simp [intOf]; omega⟩
      by_cases e : i = k
      · simp [e]
      · have : i < k + 1 ↔ i < k := by omega
        simp [e, this]
    · obtain rfl : k = n := by omega
      have H2 := Lib.hid (show IntRow wr (N + 1) k (fun _ => -1) ∧ wr.cell? ⟨N, 0, none⟩ = some (.slice a k cap) ∧ Below N w wr from ⟨hr.congr (fun i hi => by simp [hi]), hc, hb⟩)
      clear hr hc hb HK
      go_wp2
      clear hk hkn
      have hstart : ∃ h : Nat → Int, IntRow wr (N + 1) k h ∧ (∀ j, j < k → -1 ≤ h j) := ⟨fun _ => -1, H2.out.1, fun _ _ => Int.le_refl _⟩
      obtain ⟨h, hr, hsv⟩ := hstart
      have H3 := Lib.hid (And.intro hr (And.intro hsv H2.out.2))
      clear hr hsv H2
      go_loopw [6, 27] (fun pv i wr => ∃ (t p : Nat) (h : Nat → Int), t ≤ k ∧ p ≤ t ∧ i = .int .i64 t ∧ pv = .int .i64 p ∧ IntRow wr (N + 1) k h ∧ (∀ j, j < k → -1 ≤ h j) ∧ wr.cell? ⟨N, 0, none⟩ = some (.slice a k cap) ∧ Below N w wr) (fun _ i _ => k - (intOf i).toNat)
      case atStart => exact ⟨0, 0, h, by omega, by omega, rfl, rfl, H3.out⟩
      case round =>
        clear H3 h
        obtain ⟨t, p, h, ht, hpt, rfl, rfl, hr, hsv, hc, hb⟩ := hrel
        have HK := Lib.hid (And.intro hr (And.intro hsv (And.intro hc hb)))
        rcases Nat.lt_or_ge t k with htk | htk
        · have ct := hr.cell htk
          have ft := hr.frozen t
          have hst := hsv t htk
          clear hr hsv hb
          obtain ⟨z, hz⟩ : ∃ z, z = h t := ⟨_, rfl⟩
          rw [← hz] at ct hst
          have HZ := Lib.hid hz
          clear hz
          have t0 : 0 ≤ (t : Int) := by omega
          have tk : (t : Int) < (k : Int) := by omega
          rcases Int.lt_or_le z 0 with hz0 | hz0
          · have q1 : decide (0 ≤ z) = false := by simp; omega
            go_wp2
            obtain ⟨D, hD⟩ : ∃ D, D = wr.heap.size := ⟨_, rfl⟩
            rw [← hD]
            refine wp_named fun W5 hW5 => ?_
            have hQ : PQ w W5 N k (.slice a k cap) (.slice (some ⟨D, 0, none⟩) 1 1) [t] (fun i => if i = t then (p : Int) else h i) := by
              obtain ⟨hr, hsv, hc, hb⟩ := HK.out
              have hlt := hr.lt
              have hs := grownBy_setCell wr (N + 1) t (.int .i64 (p : Int))
              have hal := World.grownBy_alloc (wr.setCell ⟨N + 1, t, none⟩ (.int .i64 (p : Int))) (.cells #[.int .i64 (t : Int)] 3) none
              rw [← hW5] at hal
              have hown := World.ownsRow_lit (base := N + 2) (e := 3) (size := 1) (wr.setCell ⟨N + 1, t, none⟩ (.int .i64 (p : Int))) #[.int .i64 (t : Int)] 1 (by simp; omega) (by decide) rfl
              rw [← hW5] at hown
              simp only [World.size_setCell, ← hD] at hown
              refine ⟨hown, rowIs_kept ((hr.set t _).congr (fun i _ => by by_cases e : i = t <;> simp [e])) hal (by simp), fun j hj => ?_, fun q hq => ?_, ?_, hal.cell (hs.cell hc (by simp)) (by simp), (hb.setCell (by show N ≤ N + 1; omega) _).grown hal (by simp; omega) (fun r e => by cases e)⟩
              · by_cases e : j = t
                · simp only [e, if_true]; omega
                · simp only [e, if_false]; exact hsv j hj
              · simp at hq; omega
              · have e : (fun i => (if i = t then (p : Int) else h i) + 1) = fun i => if i = t then (p : Int) + 1 else h i + 1 := by
                  funext i; split <;> rfl
                have := hsv t htk
                have := HZ.out
                rw [e, nzc_set (s := fun i => h i + 1) htk (by omega) (by omega)]
                simp
            have HQ := Lib.hid hQ
            clear hQ hW5 hD hc ct ft
            go_loopw [8, 9] (fun lv i wr => ∃ (qs : List Nat) (h : Nat → Int) (j : Nat), j ≤ qs.length ∧ i = .int .i64 j ∧ PQ w wr N k (.slice a k cap) lv qs h) (fun _ i _ => k - (intOf i).toNat)
            case atStart => exact ⟨_, _, 0, by omega, rfl, HQ.out⟩
            case round =>
              clear HQ
              obtain ⟨qs, h2, j, hj, rfl, hP⟩ := hrel
              obtain ⟨la, lc, rfl⟩ := ownsRow_form hP.own
              have HP := Lib.hid hP
              have hlk : qs.length ≤ k := Nat.le_trans hP.cnt (nzc_le _ _)
              rcases Nat.lt_or_ge j qs.length with hjl | hjl
              · obtain ⟨g, gc, q, hge, hqc, hqk⟩ := hP.qcell hjl
                obtain ⟨rfl, -, rfl⟩ : la = some ⟨g, 0, none⟩ ∧ qs.length = qs.length ∧ lc = gc := by simpa using hge
                obtain ⟨_, b, off, _, hve, hga, hgc⟩ := HG.out.2
                simp only [Value.slice.injEq, true_and] at hve
                obtain ⟨hva, hvc⟩ := hve
                obtain ⟨hN2, hne2⟩ := HNN.out
                obtain ⟨hab, hbB⟩ := hga (by omega)
                rw [hab] at hva
                subst hva
                have hrow : RowCells wr.drew b (off + q * 20) G q := by
                  have := rowCells (W := w) hgc q (by omega)
                  intro jj hjj
                  rw [← this jj hjj]
                  exact (below_dr hP.bel).cell (p := ⟨b, off + q * 20 + jj, none⟩) (by exact hbB)
                have hrg := RowCells.range hrow
                have c0 : wr.drew.cell? ⟨N, 0, none⟩ = some (.slice (some ⟨b, off, none⟩) k cap) := hP.c0
                replace hqc : wr.drew.cell? ⟨g, j, none⟩ = some (.int .i64 (q : Int)) := hqc
                have j0 : 0 ≤ (j : Int) := by omega
                have jl : (j : Int) < (qs.length : Int) := by omega
                have q0 : 0 ≤ (q : Int) := by omega
                have qk : (q : Int) < (k : Int) := by omega
                have H5 := Lib.hid (HP.out.kept (grownBy_drew _ none))
                clear hP hge hga hgc hvc hN2 hne2 hab hbB hrow
                go_wp2
                refine wp_region_still_lit (by kernel_rfl) (by kernel_rfl) ?_
                repeat (first | (refine wpStill_load_row rfl 88 (.tmp 53) rfl b (off + q * 20) rfl (rowA G q) _ hrg Try.underlying88 rfl (by kernel_rfl) ?_) | (refine wpStill_step (fun K hK => ?_); go_simp; refine hK _ ?_; clear hK K))
                refine wpStill_nil ?_
                go_wp2
                clear hqc c0 hrg
                go_loopw [8, 55] (fun lv i wr => ∃ (qs : List Nat) (h : Nat → Int) (f : Nat), f ≤ 4 ∧ i = .int .i64 f ∧ j < qs.length ∧ PQ w wr N k (.slice (some ⟨b, off, none⟩) k cap) lv qs h) (fun _ i _ => 4 - (intOf i).toNat)
                case atStart => exact ⟨qs, h2, 0, by omega, rfl, hjl, H5.out⟩
                case round =>
                  clear H5
                  obtain ⟨qs', h3, f, hf, rfl, hjl', hP⟩ := hrel
                  obtain ⟨la', lc', rfl⟩ := ownsRow_form hP.own
                  have HP := Lib.hid hP
                  have hlk' : qs'.length ≤ k := Nat.le_trans hP.cnt (nzc_le _ _)
                  rcases Nat.lt_or_ge f 4 with hf4 | hf4
                  · have hix := fun w => row_index G q f hf4 w
                    unfold faceA at hix
                    have hkk : 4 * q + f < 4 * G.n := by have := HNN.out.2; omega
                    obtain ⟨T, hT⟩ : ∃ T, T = G.tet (4 * q + f) := ⟨_, rfl⟩
                    rw [← hT] at hix
                    rcases Int.lt_or_le T 0 with hT0 | hT0
                    · have q1 : decide (0 ≤ T) = false := by simp; omega
                      clear hP hT
                      go_wp2
                      exact ⟨⟨qs', h3, f + 1, by omega, by simp, hjl', HP.out.kept (World.grownBy_alloc _ _ _)⟩, by simp [intOf]; omega⟩
                    · obtain ⟨e1, e2, _⟩ := ok_face HG.out.1 hkk (by omega)
                      obtain ⟨x, hx⟩ : ∃ x : Nat, T = (x : Int) ∧ x < k := ⟨G.T (4 * q + f), by rw [hT, e1], by have := HNN.out.2; omega⟩
                      obtain ⟨rfl, hxk⟩ := hx
                      have hrc := cell_al (hP.row.cell hxk)
                      have hrf : ∀ o, (wr.alloc o).frozen? ⟨N + 1, x, none⟩ = false := fun o => ((World.grownBy_alloc wr o none).frozen_far ⟨N + 1, x, none⟩ hP.row.lt (by simp)).trans (hP.row.frozen x)
                      obtain ⟨y, hy⟩ : ∃ y, y = h3 x := ⟨_, rfl⟩
                      rw [← hy] at hrc
                      have HY := Lib.hid hy
                      have q1 : decide (0 ≤ (x : Int)) = true := by simp
                      have x0 : 0 ≤ (x : Int) := by omega
                      have xk : (x : Int) < (k : Int) := by omega
                      clear hP hT e1 e2 hy
                      rcases Int.lt_or_le y 0 with hy0 | hy0
                      · have q2 : decide (y < 0) = true := by simpa using hy0
                        obtain ⟨j0, hj0, hz30, hz31, hz32⟩ := info_parts info3
                        have hlt1 := HP.out.row.lt
                        have hfc : ∀ u, ((wr.alloc (.cells #[.int .i64 (x : Int), .int .i64 (G.pm (4 * q + f) 0), .int .i64 (G.pm (4 * q + f) 1), .int .i64 (G.pm (4 * q + f) 2), .int .i64 (G.pm (4 * q + f) 3)] 87)).setCell ⟨N + 1, x, none⟩ u).cell? ⟨wr.heap.size, 0, none⟩ = some (.int .i64 (x : Int)) := fun u =>
                          (World.cell?_setCell_other (a := ⟨N + 1, x, none⟩) (b := ⟨wr.heap.size, 0, none⟩) _ _ (by simp <;> omega)).trans (World.cell?_alloc_at _ _ _ _ rfl)
                        have hne : (Value.slice la' qs'.length lc').ownBlock = none ∨ (Value.slice la' qs'.length lc').ownBlock ≠ some (N + 1) := .inr (fun e => by have := (HP.out.own.lt _ e).1; omega)
                        have hown := ((HP.out.own.kept (grownBy_setCell wr (N + 1) x (.int .i64 (p : Int))) hne).alloc (.cells #[.int .i64 (x : Int), .int .i64 (G.pm (4 * q + f) 0), .int .i64 (G.pm (4 * q + f) 1), .int .i64 (G.pm (4 * q + f) 2), .int .i64 (G.pm (4 * q + f) 3)] 87)).alloc (.cells #[.int .i64 (x : Int)] 3)
                        have hnews := World.news_of_block (cs := #[.int .i64 (x : Int)]) (MapKept.heap_alloc ((wr.setCell ⟨N + 1, x, none⟩ (.int .i64 (p : Int))).alloc (.cells #[.int .i64 (x : Int), .int .i64 (G.pm (4 * q + f) 0), .int .i64 (G.pm (4 * q + f) 1), .int .i64 (G.pm (4 * q + f) 2), .int .i64 (G.pm (4 * q + f) 3)] 87)) (.cells #[.int .i64 (x : Int)] 3)).1
                        simp only [World.size_setCell, World.size_alloc] at hnews
                        have HA := Lib.hid (And.intro True.intro (And.intro hown hnews))
                        clear hown hnews hne
                        generalize G.pm (4 * q + f) 0 = g0 at *
                        generalize G.pm (4 * q + f) 1 = g1 at *
                        generalize G.pm (4 * q + f) 2 = g2 at *
                        generalize G.pm (4 * q + f) 3 = g3 at *
                        go_wp2_with (at_builtin; refine (wpList_append_lies _ rfl (.tmp 74) (.tmp 77) 35 rfl (N + 2) 3 j0 _ 1 8 und35 hj0 hz30 hz31 hz32 rfl (by omega) (.slice la' qs'.length lc') qs'.length _ rfl HA.out.2.1 ⟨wr.heap.size + 1, 0, none⟩ 1 1 [.int .i64 (x : Int)] rfl rfl HA.out.2.2 (by simp [Value.oneCell']) (by omega) (by unfold maxLen; omega) (by omega) (by simp; omega) (wr.heap.size + 1 + 1) (by simp) ?_); intro g9 c9 w9 r1 r2 r3 r4; have HR := Lib.hid (And.intro r1 r2); clear r1 r2 r3 r4)
                        exact ⟨⟨qs' ++ [x], _, f + 1, by omega, by simp, by simp; omega, HP.out.push hxk (by rw [← HY.out]; exact hy0) (by omega : (0 : Int) ≤ (p : Int)) (grownBy_trans (World.grownBy_alloc _ _ _) (World.grownBy_alloc _ _ _)) HR.out.1 HR.out.2⟩, by simp [intOf]; omega⟩
                      · have q2 : decide (y < 0) = false := by simp; omega
                        go_wp2
                        exact ⟨⟨qs', h3, f + 1, by omega, by simp, hjl', HP.out.kept (World.grownBy_alloc _ _ _)⟩, by simp [intOf]; omega⟩
                  · obtain rfl : f = 4 := by omega
                    clear hP
                    go_wp2
                    exact ⟨⟨qs', h3, j + 1, by omega, by simp, HP.out⟩, by simp [intOf]; omega⟩
              · obtain rfl : j = qs.length := by omega
                clear hP
                go_wp2
                exact ⟨⟨t + 1, p + 1, _, by omega, by omega, by simp, by simp, HP.out.row, HP.out.sv, HP.out.c0, HP.out.bel⟩, by simp [intOf]; omega⟩
          · have q1 : decide (0 ≤ z) = true := by simp; omega
            go_wp2
            exact ⟨⟨t + 1, p, h, by omega, by omega, by simp, rfl, HK.out⟩, by simp [intOf]; omega⟩
        · obtain rfl : t = k := by omega
          clear hr hsv hc hb
          go_wp2
          go_ret2
          exact ⟨N + 1, p, h, rfl, HK.out.1, HK.out.2.2.2⟩

set_option maxRecDepth 100000 in
set_option maxHeartbeats 1000000 in
theorem Parts_walk (G : Gl) (v : Value) (w : World) (hG : GlAt w.heap.size w v G) (hm : G.n ≤ 9223372036854775807) :
    Calls Try.prog 67 #[.agg #[v]] w fun e w' => ∃ rv c n h, e = .returned (.tuple #[rv, .int .i64 c]) ∧ SI w'.heap.size w' rv n h ∧ n ≤ 1000 ∧ Below w.heap.size w w' := by
  have HG := Lib.hid hG
  obtain ⟨a, cap, rfl⟩ : ∃ a cap, v = .slice a G.n cap := by obtain ⟨a, _, _, cap, e, _⟩ := hG; exact ⟨a, cap, e⟩
  clear hG
  go_enter Try.func67, Try.ntmps67
  go_wp2_with fail
  refine wp_world_named fun W0 hW => ?_
  have hb : Below w.heap.size w W0 ∧ W0.cell? ⟨w.heap.size, 0, none⟩ = some (.slice a G.n cap) := by rw [hW]; exact ⟨by (repeat' (first | assumption | exact Below.refl _ _ | refine below_then ?_ (by assumption) | refine below_al ?_ _ | refine below_dr ?_ | refine below_sc ?_ (by simp <;> omega) _)), by simp [go_sem]⟩
  clear hW
  refine (Check_walk G (.slice a G.n cap) W0 ((HG.out.below hb.1).mono hb.1.size) hm).mono ?_
  rintro e W1 ⟨rfl, hb1⟩
  have x1 := (hb1.cell (p := ⟨w.heap.size, 0, none⟩) (lt_of_cell hb.2)).trans hb.2
  have hbw := hb.1.trans (hb1.mono hb.1.size)
  have HB := Lib.hid hbw
  clear hb hb1 hbw
  cases hok : checkB G with
  | false =>
    have e7 : checkI G = 7 := by simp [checkI, hok]
    rw [e7]
    clear hok e7
    go_wp2
    go_ret2
    exact ⟨_, _, 0, fun _ => 0, rfl, ⟨none, 0, 0, 0, rfl, fun h => by omega, fun k hk => by omega⟩, by omega, HB.out⟩
  | true =>
    have e7 : checkI G = 0 := by simp [checkI, hok]
    rw [e7]
    have hn : G.n ≤ 1000 := by have := hok; simp [checkB] at this; exact this.1
    have h109 := parts_walk G hok (.slice a G.n cap) W1 ((HG.out.below HB.out).mono HB.out.size)
    have H109 := Lib.hid h109
    clear hok e7 h109
    go_wp2_with fail
    refine H109.out.mono ?_
    rintro e W2 ⟨d, p, h, rfl, hr, hb2⟩
    have H2 := Lib.hid (And.intro hr hb2)
    clear hr hb2
    go_wp2
    go_ret2
    exact ⟨_, _, G.n, h, rfl, SI.of_row H2.out.1 H2.out.1.lt, hn, HB.out.trans (H2.out.2.mono HB.out.size)⟩
end Go.Proofs.Ytlckpgahijlmoaa
