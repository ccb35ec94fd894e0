/- R01.Orient of a valid gluing with an orientation, told by any invariant that the steps of its search keep. -/
import Derived.Test.YtlckpgahijlmoaaQ45
import Derived.Test.YtlckpgahijlmoaaQ40
namespace Go.Proofs.Ytlckpgahijlmoaa
open Go.RowKit Go.Shelf

/-- the signs and the list at hand, the row at d -/
structure OQR (w W : World) (N d n : Nat) (v qv : Value) (qs : List Nat) (h : Nat → Int) : Prop where
  own : W.ownsRow (d + 1) 3 1 qv qs.length (qs.map fun (q : Nat) => Value.int .i64 (q : Int))
  row : IntRow W d n h
  sv : ∀ j, j < n → h j = 0 ∨ h j = 1 ∨ h j = -1
  qlt : ∀ q ∈ qs, q < n
  cnt : qs.length ≤ nzc h n
  nz : ∀ q ∈ qs, h q ≠ 0
  c0 : W.cell? ⟨N, 0, none⟩ = some v
  lt : N < d
  bel : Below N w W
theorem OQR.kept {w W W' : World} {N d n : Nat} {v qv : Value} {qs : List Nat} {h : Nat → Int} (hq : OQR w W N d n v qv qs h) (hg : W.grownBy W' none) : OQR w W' N d n v qv qs h :=
  ⟨hq.own.kept hg (by cases qv.ownBlock <;> simp), rowIs_kept hq.row hg (by simp), hq.sv, hq.qlt, hq.cnt, hq.nz, hg.cell hq.c0 (by simp), hq.lt, hq.bel.grown hg (by have := lt_of_cell hq.c0; simp only at this; omega) (fun k e => by cases e)⟩
theorem OQR.qcell {w W : World} {N d n : Nat} {v qv : Value} {qs : List Nat} {h : Nat → Int} (hq : OQR w W N d n v qv qs h) {k : Nat} (hk : k < qs.length) : ∃ g cap, qv = .slice (some ⟨g, 0, none⟩) qs.length cap ∧ W.cell? ⟨g, k, none⟩ = some (.int .i64 ((qs[k] : Nat) : Int)) ∧ qs[k] < n := by
  obtain ⟨g, cap, hv, _⟩ := hq.own.form (by omega)
  refine ⟨g, cap, hv, ?_, hq.qlt _ (List.getElem_mem hk)⟩
  have := hq.own.cells (g := g) (by rw [hv]; rfl) k (.int .i64 (qs[k] : Nat)) (by simp [hk])
  rwa [Addr.add_mid, Nat.zero_add] at this
/-- a tetrahedron gets its sign and goes onto the list -/
theorem OQR.push {w W W2 w1 : World} {N d n g cap : Nat} {v qv : Value} {qs : List Nat} {h : Nat → Int} (hq : OQR w W N d n v qv qs h) {j : Nat} (hj : j < n) (h0 : h j = 0) {x : Int} (hx : x = 1 ∨ x = -1) (hg : (W.setCell ⟨d, j, none⟩ (.int .i64 x)).grownBy W2 none)
    (a1 : w1.ownsRow (d + 1) 3 1 (.slice (some ⟨g, 0, none⟩) (qs.length + 1) cap) (qs.length + 1) ((qs.map fun (q : Nat) => Value.int .i64 (q : Int)) ++ [.int .i64 (j : Int)])) (a2 : W2.grownBy w1 qv.ownBlock) :
    OQR w w1 N d n v (.slice (some ⟨g, 0, none⟩) (qs.length + 1) cap) (qs ++ [j]) (fun i => if i = j then x else h i) := by
  have hlo : ∀ b, qv.ownBlock = some b → d + 1 ≤ b := fun b e => (hq.own.lt b e).1
  have hNd := hq.lt
  have n1 : some d ≠ qv.ownBlock := fun e => by have := hlo _ e.symm; omega
  have n0 : some N ≠ qv.ownBlock := fun e => by have := hlo _ e.symm; omega
  have hs := grownBy_setCell W d j (.int .i64 x)
  have h1 : (W.setCell ⟨d, j, none⟩ (.int .i64 x)).rowIs d 3 n (fun i => .int .i64 (if i = j then x else h i)) := (hq.row.set j _).congr (fun i _ => by by_cases e : i = j <;> simp [e])
  refine ⟨by simpa using a1, rowIs_kept (rowIs_kept h1 hg (by simp)) a2 n1, fun i hi => ?_, fun q hm => ?_, ?_, fun q hm => ?_, a2.cell (hg.cell (hs.cell hq.c0 (by simp; omega)) (by simp)) n0, hq.lt, ?_⟩
  · by_cases e : i = j
    · simp only [e, if_true]; omega
    · simp only [e, if_false]; exact hq.sv i hi
  · rcases List.mem_append.1 hm with q1 | q1
    · exact hq.qlt q q1
    · simp at q1; omega
  · rw [nzc_set (s := h) hj h0 (by omega)]
    have := hq.cnt
    simp; omega
  · by_cases e : q = j
    · simp only [e, if_true]; omega
    · simp only [e, if_false]
      rcases List.mem_append.1 hm with q1 | q1
      · exact hq.nz q q1
      · simp at q1; exact absurd q1 e
  · have hN := lt_of_cell hq.c0
    simp only at hN
    have hz := hg.size
    simp at hz
    exact ((hq.bel.setCell (by show N ≤ d; omega) _).grown hg (by simp; omega) (fun k e => by cases e)).grown a2 (by omega) (fun k e => by have := hlo k e; omega)

set_option maxRecDepth 100000 in
set_option maxHeartbeats 2000000 in
theorem rorient_walk (G : Gl) (hok : checkB G = true) {A : Nat → (Nat → Int) → Prop} {B : Nat → List Nat → (Nat → Int) → Nat → Prop} {C : Nat → List Nat → (Nat → Int) → Nat → Nat → Nat → Prop} (hI : OInv G A B C) (hsg : ∀ k, k < 4 * G.n → ¬ G.tet k < 0 → SignR (G.pm k) = 1 ∨ SignR (G.pm k) = -1) (v : Value) (w : World) (hG : GlAt w.heap.size w v G) :
    Calls Try.prog 13 #[.agg #[v]] w fun e w' => ∃ d, e = .returned (.tuple #[.slice (some ⟨d, 0, none⟩) G.n G.n, .bool true, .int .i64 0]) ∧ Below w.heap.size w w' := by
  have hn : G.n ≤ 1000 := by simp only [checkB, Bool.and_eq_true, decide_eq_true_eq] at hok; exact hok.1
  have hmk := run_make_row' (P := Try.prog) 35 3 (.int .i64 0) 8 und35 info3 rfl .i64 .i64 G.n (by omega) (by omega)
  have e0 : checkI G = 0 := by rw [checkI, hok]; rfl
  have HG := Lib.hid (And.intro hok hG)
  have HI := Lib.hid hI
  have HSG := Lib.hid hsg
  obtain ⟨a, cap, rfl⟩ : ∃ a cap, v = .slice a G.n cap := by obtain ⟨a, _, _, cap, e, _⟩ := hG; exact ⟨a, cap, e⟩
  clear hok hG hI hsg
  have h24 := fun W (hb : Below w.heap.size w W) => checkRI_walk G W (.slice a G.n cap) ((HG.out.2.below hb).mono hb.size) (by omega)
  rw [e0] at h24
  have H24 := Lib.hid h24
  clear h24 e0
  obtain ⟨N, hN⟩ : ∃ N, N = w.heap.size := ⟨_, rfl⟩
  obtain ⟨n, hne⟩ : ∃ n, n = G.n := ⟨_, rfl⟩
  rw [← hne] at hn hmk ⊢
  have HNN := Lib.hid (And.intro hN hne)
  clear hne
  go_enter Try.func13, Try.ntmps13
  go_wp2_with fail
  refine wp_world_named fun W0 hW => ?_
  have h0 : Below N w W0 ∧ W0.cell? ⟨N, 0, none⟩ = some (.slice a n cap) := by rw [hW, hN]; exact ⟨by (repeat' (first | assumption | exact Below.refl _ _ | refine below_then ?_ (by assumption) | refine below_al ?_ _ | refine below_dr ?_ | refine below_sc ?_ (by simp <;> omega) _)), by simp [go_sem]⟩
  clear hW
  rw [← hN]
  rw [← hN] at H24
  clear hN
  obtain ⟨hb, c0⟩ := h0
  have h240 := H24.out _ hb
  rw [← HNN.out.2] at h240
  refine h240.mono ?_
  rintro e W1 ⟨rfl, hb1⟩
  have hN0 : N < W0.heap.size := lt_of_cell c0
  have c1 := (hb1.cell (p := ⟨N, 0, none⟩) (lt_of_cell c0)).trans c0
  have HB := Lib.hid (And.intro (hb.trans (hb1.mono (by omega))) (show N < W1.heap.size by have := hb1.size; omega))
  clear hb hb1 c0 h240 hN0
  go_wp2
  refine wp_named fun W2 hW => ?_
  obtain ⟨d, hd⟩ : ∃ d, d = W1.heap.size := ⟨_, rfl⟩
  rw [← hd]
  have h2 : IntRow W2 d n (fun _ => 0) ∧ W2.cell? ⟨N, 0, none⟩ = some (.slice a n cap) ∧ Below N w W2 := by
    have := World.rowIs_made W1 (.int .i64 0) n 3
    rw [hW, hd]
    exact ⟨this, cell_al c1 _, HB.out.1.alloc (by have := HB.out.2; omega) _⟩
  have hNd : N < d := by have := HB.out.2; omega
  have H2 := Lib.hid h2
  clear h2 hW hmk hd c1
  go_loopw [6] (fun i wr => ∃ (t : Nat) (h : Nat → Int), t ≤ n ∧ i = .int .i64 t ∧ A t h ∧ IntRow wr d n h ∧ (∀ j, j < n → h j = 0 ∨ h j = 1 ∨ h j = -1) ∧ wr.cell? ⟨N, 0, none⟩ = some (.slice a n cap) ∧ Below N w wr) (fun i _ => n - (intOf i).toNat)
  case atStart => exact ⟨0, fun _ => 0, by omega, rfl, HI.out.start, H2.out.1, fun _ _ => .inl rfl, H2.out.2⟩
  case round =>
    clear H2
    obtain ⟨t, h, ht, rfl, hA, hr, hsv, hc, hb⟩ := hrel
    have HK := Lib.hid (And.intro hr (And.intro hsv (And.intro hc (And.intro hb hA))))
    rcases Nat.lt_or_ge t n with htk | htk
    · have ct := hr.cell htk
      have ft := hr.frozen t
      clear hr hsv hb hA
      obtain ⟨z, hz⟩ : ∃ z, z = h t := ⟨_, rfl⟩
      rw [← hz] at ct
      have HZ := Lib.hid hz
      clear hz
      have t0 : 0 ≤ (t : Int) := by omega
      have tk : (t : Int) < (n : Int) := by omega
      by_cases hz0 : z = 0
      · subst hz0
        have cta := cell_al ct
        have fta : ∀ o, (wr.alloc o).frozen? ⟨d, t, none⟩ = false := fun o => ((World.grownBy_alloc wr o none).frozen_far ⟨d, t, none⟩ HK.out.1.lt (by simp)).trans ft
        go_wp2
        obtain ⟨D, hD⟩ : ∃ D, D = wr.heap.size := ⟨_, rfl⟩
        rw [← hD]
        refine wp_named fun W5 hW5 => ?_
        have hQ : OQR w W5 N d n (.slice a n cap) (.slice (some ⟨D, 0, none⟩) 1 1) [t] (fun i => if i = t then 1 else h i) := by
          obtain ⟨hr, hsv, hc, hb, -⟩ := HK.out
          have hlt := hr.lt
          have hNs := lt_of_cell hc
          simp only at hNs
          have hs := grownBy_setCell wr d t (.int .i64 1)
          have hal := World.grownBy_alloc (wr.setCell ⟨d, t, none⟩ (.int .i64 1)) (.cells #[.int .i64 (t : Int)] 3) none
          have hown := World.ownsRow_lit (base := d + 1) (e := 3) (size := 1) (wr.setCell ⟨d, t, none⟩ (.int .i64 1)) #[.int .i64 (t : Int)] 1 (by simp; omega) (by decide) rfl
          simp only [World.size_setCell] at hown
          rw [← hD] at hown
          rw [← hW5] at hal hown
          have hr1 : IntRow (wr.setCell ⟨d, t, none⟩ (.int .i64 1)) d n (fun i => if i = t then 1 else h i) := (hr.set t _).congr (fun i _ => by by_cases e : i = t <;> simp [e])
          refine ⟨hown, rowIs_kept hr1 hal (by simp), fun j hj => ?_, fun q hq => ?_, ?_, fun q hq => by simp at hq; simp [hq], hal.cell (hs.cell hc (by simp; omega)) (by simp), hNd, ?_⟩
          · by_cases e : j = t
            · simp [e]
            · simp only [e, if_false]; exact hsv j hj
          · simp at hq; omega
          · rw [nzc_set (s := h) htk HZ.out.symm (by omega)]
            simp
          · rw [hW5]; exact (hb.setCell (by show N ≤ d; omega) _).alloc (by simp; omega) _
        have hB := HI.out.new t h (by have := HNN.out.2; omega) HK.out.2.2.2.2 HZ.out.symm
        have HQ := Lib.hid (And.intro hQ hB)
        clear hQ hB hW5 hD hc ct ft cta fta
        go_loopw [7, 8] (fun lv i wr => ∃ (qs : List Nat) (h : Nat → Int) (j : Nat), j ≤ qs.length ∧ i = .int .i64 j ∧ OQR w wr N d n (.slice a n cap) lv qs h ∧ B t qs h j) (fun _ i _ => n - (intOf i).toNat)
        case atStart => exact ⟨_, _, 0, by omega, rfl, HQ.out⟩
        case round =>
          clear HQ
          obtain ⟨qs, h2, j, hj, rfl, hP, hB⟩ := hrel
          obtain ⟨la, lc, rfl⟩ := ownsRow_form hP.own
          have HP := Lib.hid (And.intro hP hB)
          have hlk : qs.length ≤ n := Nat.le_trans hP.cnt (nzc_le _ _)
          rcases Nat.lt_or_ge j qs.length with hjl | hjl
          · obtain ⟨q, hq⟩ : ∃ q, q = qs[j] := ⟨_, rfl⟩
            have hqk : q < n := by rw [hq]; exact hP.qlt _ (List.getElem_mem hjl)
            have hC := HI.out.row t qs h2 j hjl hB
            rw [← hq] at hC
            have H5 := Lib.hid (And.intro (show qs[j]? = some q by rw [hq]; exact List.getElem?_eq_getElem hjl) (And.intro hP hC))
            clear hP hB hC hq
            go_wp2
            go_loopw [7, 9] (fun lv i wr => ∃ (qs : List Nat) (h : Nat → Int) (f : Nat), f ≤ 4 ∧ i = .int .i64 f ∧ qs[j]? = some q ∧ OQR w wr N d n (.slice a n cap) lv qs h ∧ C t qs h j q f) (fun _ i _ => 4 - (intOf i).toNat)
            case atStart => exact ⟨qs, h2, 0, by omega, rfl, H5.out⟩
            case round =>
              clear H5
              obtain ⟨qs', h3, f, hf, rfl, hjq, hP, hC⟩ := hrel
              obtain ⟨la', lc', rfl⟩ := ownsRow_form hP.own
              have HP := Lib.hid (And.intro hP hC)
              have hlk' : qs'.length ≤ n := Nat.le_trans hP.cnt (nzc_le _ _)
              obtain ⟨hjl', hqe⟩ := List.getElem?_eq_some_iff.1 hjq
              rcases Nat.lt_or_ge f 4 with hf4 | hf4
              · obtain ⟨g, gc, hge, hqc, -⟩ := hP.qcell hjl'
                rw [hqe] at hqc
                obtain ⟨rfl, -, rfl⟩ : la' = some ⟨g, 0, none⟩ ∧ qs'.length = qs'.length ∧ lc' = gc := by simpa using hge
                obtain ⟨_, b, off, _, hve, hga, hgc⟩ := HG.out.2
                obtain ⟨hN2, hne2⟩ := HNN.out
                obtain ⟨hva, hvc⟩ : a = _ ∧ cap = _ := by simpa using hve
                obtain ⟨hab, hbB⟩ := hga (by omega)
                rw [hab] at hva
                subst hva
                have hkk : 4 * q + f < 4 * G.n := by omega
                have fw : ∀ o x, w.cell? ⟨b, o, none⟩ = some x → wr.cell? ⟨b, o, none⟩ = some x := fun o x hx => (hP.bel.cell (p := ⟨b, o, none⟩) (by rw [hN2]; exact hbB)).trans hx
                obtain ⟨fb0, fb⟩ := hgc (4 * q + f) hkk
                rw [show off + 5 * (4 * q + f) = off + q * 20 + f * 5 by omega] at fb0 fb
                obtain ⟨T, hT⟩ : ∃ T, T = G.tet (4 * q + f) := ⟨_, rfl⟩
                obtain ⟨pp, hpp⟩ : ∃ pp, pp = G.pm (4 * q + f) := ⟨_, rfl⟩
                rw [← hT] at fb0
                rw [← hpp] at fb
                have p0 := fw _ _ fb0
                have p1 := fw _ _ (fb 0 (by omega))
                have p2 := fw _ _ (fb 1 (by omega))
                have p3 := fw _ _ (fb 2 (by omega))
                have p4 := fw _ _ (fb 3 (by omega))
                rw [Nat.add_zero] at p1
                have c0 : wr.cell? ⟨N, 0, none⟩ = some (.slice (some ⟨b, off, none⟩) n cap) := hP.c0
                have c0a := cell_al c0
                have hqca := cell_al hqc
                have p0a := cell_al p0
                have p1a := cell_al p1
                have p2a := cell_al p2
                have p3a := cell_al p3
                have p4a := cell_al p4
                have j0 : 0 ≤ (j : Int) := by omega
                have jl : (j : Int) < (qs'.length : Int) := by omega
                have q0 : 0 ≤ (q : Int) := by omega
                have qk : (q : Int) < (n : Int) := by omega
                have f0 : 0 ≤ (f : Int) := by omega
                have f4 : (f : Int) < 4 := by omega
                have HK2 := Lib.hid (And.intro hjq (And.intro hT (And.intro (show n = G.n from hne2) hpp)))
                clear hve hga hgc hvc hN2 hne2 hab hbB hge hC hqe hjq hf hP fw fb fb0 hT hpp
                go_wp2
                go_region_held3 (fun w' => w'.cell? ⟨N, 0, none⟩ = some (.slice (some ⟨b, off, none⟩) n cap) ∧ w'.cell? ⟨g, j, none⟩ = some (.int .i64 (q : Int)) ∧
                    w'.cell? ⟨b, off + q * 20 + f * 5, none⟩ = some (.int .i64 T) ∧ w'.cell? ⟨b, off + q * 20 + f * 5 + 1, none⟩ = some (.int .i64 (pp 0)) ∧ w'.cell? ⟨b, off + q * 20 + f * 5 + 1 + 1, none⟩ = some (.int .i64 (pp 1)) ∧ w'.cell? ⟨b, off + q * 20 + f * 5 + 1 + 2, none⟩ = some (.int .i64 (pp 2)) ∧ w'.cell? ⟨b, off + q * 20 + f * 5 + 1 + 3, none⟩ = some (.int .i64 (pp 3)))
                  (first | exact ⟨c0, hqc, p0, p1, p2, p3, p4⟩ | exact ⟨c0a _, hqca _, p0a _, p1a _, p2a _, p3a _, p4a _⟩)
                  (fail)
                generalize hWc : World.drew (World.alloc wr (Obj.cells #[.int .i64 T, .int .i64 (pp 0), .int .i64 (pp 1), .int .i64 (pp 2), .int .i64 (pp 3)] 87)) = Wc
                obtain ⟨E, hE⟩ : ∃ E, E = wr.heap.size := ⟨_, rfl⟩
                have hcc : wr.grownBy Wc none ∧ Wc.cell? ⟨E, 0, none⟩ = some (.int .i64 T) ∧ Wc.cell? ⟨E, 1, none⟩ = some (.int .i64 (pp 0)) ∧ Wc.cell? ⟨E, 2, none⟩ = some (.int .i64 (pp 1)) ∧ Wc.cell? ⟨E, 3, none⟩ = some (.int .i64 (pp 2)) ∧ Wc.cell? ⟨E, 4, none⟩ = some (.int .i64 (pp 3)) := by
                  rw [← hWc, hE]
                  exact ⟨grownBy_trans (World.grownBy_alloc wr _ none) (grownBy_drew _ none), by simp [go_sem], by simp [go_sem], by simp [go_sem], by simp [go_sem], by simp [go_sem]⟩
                rw [← hE]
                obtain ⟨hcg, e0, e1, e2, e3, e4⟩ := hcc
                have hdE : d < E := by have := HP.out.1.row.lt; omega
                have gj := hcg.cell hqc (by simp)
                have HC := Lib.hid (HP.out.1.kept hcg)
                clear hWc hE hcg c0 hqc p0 p1 p2 p3 p4 c0a hqca p0a p1a p2a p3a p4a
                rcases Int.lt_or_le T 0 with hT0 | hT0
                · have q2 : decide (T < 0) = true := by simpa using hT0
                  go_wp2
                  exact ⟨⟨qs', h3, f + 1, by omega, by simp, HK2.out.1, HC.out, HI.out.skip t qs' h3 j q f (by have := HK2.out.2.2.1; omega) hf4 HP.out.2 (by rw [← HK2.out.2.1]; exact hT0)⟩, by simp [intOf]; omega⟩
                · have q2 : decide (T < 0) = false := by simp; omega
                  obtain ⟨f1, f2, -⟩ := ok_face HG.out.1 hkk (by rw [← HK2.out.2.1]; omega)
                  obtain ⟨x, hx⟩ : ∃ x : Nat, T = (x : Int) ∧ x < n := ⟨G.T (4 * q + f), by rw [HK2.out.2.1, f1], by have := HK2.out.2.2.1; omega⟩
                  obtain ⟨rfl, hxn⟩ := hx
                  obtain ⟨S, hS⟩ : ∃ S, S = SignR pp := ⟨_, rfl⟩
                  have hSpm : S = 1 ∨ S = -1 := by rw [hS, HK2.out.2.2.2]; exact HSG.out _ hkk (by rw [← HK2.out.2.1]; omega)
                  obtain ⟨Hq, hHq⟩ : ∃ z, z = h3 q := ⟨_, rfl⟩
                  have hHpm : Hq = 1 ∨ Hq = -1 := by
                    have h1 := HC.out.sv q hqk
                    have h2 := HC.out.nz q (List.mem_of_getElem? HK2.out.1)
                    rw [← hHq] at h1 h2; omega
                  obtain ⟨V, hV⟩ : ∃ V, V = -S * Hq := ⟨_, rfl⟩
                  have qn : IntKind.i64.wrap (-S) = -S := by rcases hSpm with h | h <;> rw [h] <;> rfl
                  have qm : IntKind.i64.wrap (-S * Hq) = V := by rw [hV]; rcases hSpm with h | h <;> rcases hHpm with h' | h' <;> rw [h, h'] <;> rfl
                  have hVpm : V = 1 ∨ V = -1 := by rw [hV]; rcases hSpm with h | h <;> rcases hHpm with h' | h' <;> rw [h, h'] <;> decide
                  have eV : -SignR (G.pm (4 * q + f)) * h3 q = V := by rw [hV, hS, hHq, HK2.out.2.2.2]
                  have h47 := fun W => rsign_walk pp W
                  unfold P4 at h47
                  rw [← hS] at h47
                  have H47 := Lib.hid h47
                  have dq : Wc.cell? ⟨d, q, none⟩ = some (.int .i64 Hq) := by rw [hHq]; exact HC.out.row.cell hqk
                  have HV := Lib.hid (And.intro eV hVpm)
                  clear h47 hS hHq hV eV f1 f2 hSpm hHpm hVpm
                  have x0 : 0 ≤ (x : Int) := by omega
                  have xn : (x : Int) < (n : Int) := by omega
                  have d0 : Wc.drew.cell? ⟨E, 0, none⟩ = some (.int .i64 (x : Int)) := e0
                  have d1 : Wc.drew.cell? ⟨E, 1, none⟩ = some (.int .i64 (pp 0)) := e1
                  have d2 : Wc.drew.cell? ⟨E, 2, none⟩ = some (.int .i64 (pp 1)) := e2
                  have d3 : Wc.drew.cell? ⟨E, 3, none⟩ = some (.int .i64 (pp 2)) := e3
                  have d4 : Wc.drew.cell? ⟨E, 4, none⟩ = some (.int .i64 (pp 3)) := e4
                  have d5 : Wc.drew.cell? ⟨g, j, none⟩ = some (.int .i64 (q : Int)) := gj
                  have d6 : Wc.drew.cell? ⟨d, q, none⟩ = some (.int .i64 Hq) := dq
                  have l1 := lt_of_cell d1
                  have l5 := lt_of_cell d5
                  have l6 := lt_of_cell d6
                  simp only at l1 l5 l6
                  go_wp2
                  go_region_held3 (fun w' => w'.cell? ⟨E, 1, none⟩ = some (.int .i64 (pp 0)) ∧ w'.cell? ⟨E, 2, none⟩ = some (.int .i64 (pp 1)) ∧ w'.cell? ⟨E, 3, none⟩ = some (.int .i64 (pp 2)) ∧ w'.cell? ⟨E, 4, none⟩ = some (.int .i64 (pp 3)) ∧ w'.cell? ⟨g, j, none⟩ = some (.int .i64 (q : Int)) ∧ w'.cell? ⟨d, q, none⟩ = some (.int .i64 Hq))
                    (first | exact ⟨d1, d2, d3, d4, d5, d6⟩ | exact ⟨(hb5.cell (p := ⟨E, _, none⟩) (by exact l1)).trans d1, (hb5.cell (p := ⟨E, _, none⟩) (by exact l1)).trans d2, (hb5.cell (p := ⟨E, _, none⟩) (by exact l1)).trans d3, (hb5.cell (p := ⟨E, _, none⟩) (by exact l1)).trans d4, (hb5.cell (p := ⟨g, _, none⟩) (by exact l5)).trans d5, (hb5.cell (p := ⟨d, _, none⟩) (by exact l6)).trans d6⟩)
                    (first | (go_at_call 47; (with_reducible refine (H47.out _).mono ?_); rintro e w5 ⟨rfl, hb5⟩))
                  have w0 := (hb5.cell (p := ⟨E, 0, none⟩) (by exact l1)).trans d0
                  have hg5 : Wc.grownBy w5 none := grownBy_trans (grownBy_drew Wc none) (below_grown hb5 (Nat.le_refl _) none)
                  have HC5 := Lib.hid (HC.out.kept hg5)
                  have hrc : w5.cell? ⟨d, x, none⟩ = some (.int .i64 (h3 x)) := HC5.out.row.cell hxn
                  have hrf : w5.frozen? ⟨d, x, none⟩ = false := HC5.out.row.frozen x
                  obtain ⟨y, hy⟩ : ∃ y, y = h3 x := ⟨_, rfl⟩
                  rw [← hy] at hrc
                  have HY := Lib.hid hy
                  have hEd : E ≠ d := by omega
                  have hqn : q < G.n := by have := HK2.out.2.2.1; omega
                  have hxG : x < G.n := by have := HK2.out.2.2.1; omega
                  clear hy e0 e1 e2 e3 e4 d0 d1 d2 d3 d4 d5 d6 dq gj l1 l5 l6 hg5 hb5
                  by_cases hy0 : y = 0
                  · subst hy0
                    have HCC := HI.out.push t qs' h3 j q f x hqn hf4 HP.out.2 HK2.out.2.1.symm hxG HY.out.symm
                    rw [HV.out.1] at HCC
                    replace HCC := Lib.hid HCC
                    have HJ := Lib.hid (show (qs' ++ [x])[j]? = some q by rw [List.getElem?_append_left hjl']; exact HK2.out.1)
                    obtain ⟨j0', hj0, hz30, hz31, hz32⟩ := info_parts info3
                    have hne : (Value.slice (some ⟨g, 0, none⟩) qs'.length lc').ownBlock = none ∨ (Value.slice (some ⟨g, 0, none⟩) qs'.length lc').ownBlock ≠ some d := .inr (fun e => by have := (HC5.out.own.lt _ e).1; omega)
                    have hown := ((HC5.out.own.kept (grownBy_setCell w5 d x (.int .i64 V)) hne)).alloc (.cells #[.int .i64 (x : Int)] 3)
                    have hnews := World.news_of_block (cs := #[.int .i64 (x : Int)]) (MapKept.heap_alloc (w5.setCell ⟨d, x, none⟩ (.int .i64 V)) (.cells #[.int .i64 (x : Int)] 3)).1
                    simp only [World.size_setCell] at hnews
                    have hltd := HC5.out.row.lt
                    have HA := Lib.hid (And.intro True.intro (And.intro hown hnews))
                    clear hown hnews hne
                    go_wp2_with (at_builtin; refine (wpList_append_lies _ rfl (.tmp 81) (.tmp 84) 35 rfl (d + 1) 3 j0' _ 1 8 und35 hj0 hz30 hz31 hz32 rfl (by omega) (.slice (some ⟨g, 0, none⟩) qs'.length lc') qs'.length _ rfl HA.out.2.1 ⟨w5.heap.size, 0, none⟩ 1 1 [.int .i64 (x : Int)] rfl rfl HA.out.2.2 (by simp [Value.oneCell']) (by omega) (by unfold maxLen; omega) (by omega) (by simp; omega) (w5.heap.size + 1) (by simp) ?_); intro g9 c9 w9 r1 r2 r3 r4; have HR := Lib.hid (And.intro r1 r2); clear r1 r2 r3 r4)
                    exact ⟨⟨qs' ++ [x], _, f + 1, by omega, by simp, HJ.out, HC5.out.push hxn HY.out.symm HV.out.2 (World.grownBy_alloc _ _ _) HR.out.1 HR.out.2, HCC.out⟩, by simp [intOf]; omega⟩
                  · have q3 : (y == 0) = false := by simpa using hy0
                    have HCC := HI.out.same t qs' h3 j q f x hqn hf4 HP.out.2 HK2.out.2.1.symm hxG (by rw [← HY.out]; exact hy0)
                    rw [HV.out.1, ← HY.out] at HCC
                    have q4 : (y != V) = false := by rw [HCC.1]; simp
                    replace HCC := Lib.hid HCC.2
                    go_wp2
                    exact ⟨⟨qs', h3, f + 1, by omega, by simp, HK2.out.1, HC5.out, HCC.out⟩, by simp [intOf]; omega⟩
              · obtain rfl : f = 4 := by omega
                clear hP hC hf
                go_wp2
                exact ⟨⟨qs', h3, j + 1, by omega, by simp, HP.out.1, HI.out.next t qs' h3 j q HP.out.2⟩, by simp [intOf]; omega⟩
          · obtain rfl : j = qs.length := by omega
            clear hP hB
            go_wp2
            exact ⟨⟨t + 1, _, by omega, by simp, HI.out.done t qs h2 (by have := HNN.out.2; omega) HP.out.2, HP.out.1.row, HP.out.1.sv, HP.out.1.c0, HP.out.1.bel⟩, by simp [intOf]; omega⟩
      · have q1 : (z != 0) = true := by simpa using hz0
        go_wp2
        exact ⟨⟨t + 1, h, by omega, by simp, HI.out.met t h (by have := HNN.out.2; omega) HK.out.2.2.2.2 (by rw [← HZ.out]; exact hz0), HK.out.1, HK.out.2.1, HK.out.2.2.1, HK.out.2.2.2.1⟩, by simp [intOf]; omega⟩
    · obtain rfl : t = n := by omega
      clear hr hsv hc hb hA
      go_wp2
      go_ret3
      exact ⟨d, rfl, by rw [← HNN.out.1]; exact HK.out.2.2.2.1⟩
end Go.Proofs.Ytlckpgahijlmoaa
