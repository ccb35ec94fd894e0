/- R01.Twofold of a valid gluing. -/
import Derived.Test.YtlckpgahijlmoaaQ51
import Derived.Test.YtlckpgahijlmoaaQ40
import Derived.Test.YtlckpgahijlmoaaQ24
namespace Go.Proofs.Ytlckpgahijlmoaa
open Go.RowKit Go.Shelf Go.Maps
attribute [local go_sem] Oper.semAt_some

theorem union_walk (G : Gl) (w : World) (v : Value) (hG : GlAt w.heap.size w v G) (hok : checkB G = true) (hn : G.n ≤ 500) :
    Calls Try.prog 46 #[.agg #[v], .agg #[v]] w fun e w' => ∃ ga gc, e = .returned (.tuple #[.agg #[.slice ga (G.n + G.n) gc], .int .i64 0]) ∧ w'.ownsRow w.heap.size 88 20 (.slice ga (G.n + G.n) gc) (G.n + G.n) (gpre (uniG G) (G.n + G.n)) ∧ Below w.heap.size w w' := by
  by_cases h0 : G.n = 0
  · have := union_walk0 G w v hG hok h0
    rw [h0] at this ⊢
    simpa using this
  · exact union_walk1 G w v hG hok hn h0
/-- the face k of the twofold cover is another one than that of the union -/
def flipB (G : Gl) (k : Nat) : Bool := decide (0 ≤ (uniG G).tet k) && SignR ((uniG G).pm k) == 1
/-- the twofold cover, its first K faces -/
def twoM (G : Gl) (K : Nat) : Gl where
  n := G.n + G.n
  tet := fun k => if k < K then (if flipB G k then ((uniG G).tet k + G.n) % (2 * G.n) else (uniG G).tet k) else (uniG G).tet k
  pm := (uniG G).pm
theorem twoM_ne {G : Gl} {K k : Nat} (h : k ≠ K) : (twoM G (K + 1)).tet k = (twoM G K).tet k := by
  simp only [twoM, show (k < K + 1) = (k < K) from propext (by omega)]
theorem twoM_skip {G : Gl} {K : Nat} (h : flipB G K = false) (k : Nat) : (twoM G (K + 1)).tet k = (twoM G K).tet k := by
  by_cases e : k = K
  · subst e; simp [twoM, h]
  · exact twoM_ne e
/-- Twofold's boxes -/
structure TW (wr w : World) (N E g : Nat) (ga : Option Addr) (gc : Nat) (v : Value) (G : Gl) (m K : Nat) : Prop where
  c1 : wr.cell? ⟨N, 0, none⟩ = some v
  c2 : wr.cell? ⟨N + 1, 0, none⟩ = some (.slice none 0 0)
  f2 : wr.frozen? ⟨N + 1, 0, none⟩ = false
  e0 : wr.cell? ⟨E, 0, none⟩ = some (.slice ga m gc)
  cells : ∀ k, k < 4 * m → ga = some ⟨g, 0, none⟩ ∧ g < wr.heap.size ∧ wr.cell? ⟨g, 5 * k, none⟩ = some (.int .i64 ((twoM G K).tet k)) ∧ ∀ i, i < 4 → wr.cell? ⟨g, 5 * k + 1 + i, none⟩ = some (.int .i64 ((twoM G K).pm k i))
  fr : 0 < m → ∀ o, wr.frozen? ⟨g, o, none⟩ = false
  ne1 : 0 < m → N + 1 < g
  ne2 : 0 < m → g < E
  bel : Below N w wr
theorem TW.below {wr w W : World} {N E g : Nat} {ga : Option Addr} {gc : Nat} {v : Value} {G : Gl} {m K : Nat} (h : TW wr w N E g ga gc v G m K) (hb : Below wr.heap.size wr W) : TW W w N E g ga gc v G m K := by
  have hg := below_grown hb (Nat.le_refl _) none
  have hE := lt_of_cell h.e0
  simp only at hE
  have hn1 := h.ne1
  have hn2 := h.ne2
  have hNl := lt_of_cell h.c1
  simp only at hNl
  exact ⟨hg.cell h.c1 (by simp), hg.cell h.c2 (by simp), (hg.frozen_far ⟨N + 1, 0, none⟩ (lt_of_cell h.c2) (by simp)).trans h.f2, hg.cell h.e0 (by simp), fun k hk => by
    obtain ⟨h1, h2, h3, h4⟩ := h.cells k hk
    exact ⟨h1, by have := hb.size; omega, hg.cell h3 (by simp), fun i hi => hg.cell (h4 i hi) (by simp)⟩, fun hm o => (hg.frozen_far ⟨g, o, none⟩ (by have := hn2 hm; show g < _; omega) (by simp)).trans (h.fr hm o), h.ne1, h.ne2, h.bel.trans (hb.mono (by omega))⟩
theorem TW.skip {wr w : World} {N E g : Nat} {ga : Option Addr} {gc : Nat} {v : Value} {G : Gl} {m K : Nat} (h : TW wr w N E g ga gc v G m K) (hf : flipB G K = false) : TW wr w N E g ga gc v G m (K + 1) := by
  refine ⟨h.c1, h.c2, h.f2, h.e0, fun k hk => ?_, h.fr, h.ne1, h.ne2, h.bel⟩
  obtain ⟨h1, h2, h3, h4⟩ := h.cells k hk
  refine ⟨h1, h2, ?_, h4⟩
  rw [h3, twoM_skip hf]
theorem TW.turn {wr w : World} {N E g : Nat} {ga : Option Addr} {gc : Nat} {v : Value} {G : Gl} {m K : Nat} (h : TW wr w N E g ga gc v G m K) (hm : 0 < m) (hf : flipB G K = true) {x : Int} (hx : x = ((uniG G).tet K + G.n) % (2 * G.n)) : TW (wr.setCell ⟨g, 5 * K, none⟩ (.int .i64 x)) w N E g ga gc v G m (K + 1) := by
  have hg := grownBy_setCell wr g (5 * K) (.int .i64 x)
  have n1 := h.ne1 hm
  have n2 := h.ne2 hm
  refine ⟨hg.cell h.c1 (by simp; omega), hg.cell h.c2 (by simp; omega), by rw [World.frozen?_setCell]; exact h.f2, hg.cell h.e0 (by simp; omega), fun k hk => ?_, fun _ o => by rw [World.frozen?_setCell]; exact h.fr hm o, h.ne1, h.ne2, h.bel.setCell (by show N ≤ g; omega) _⟩
  obtain ⟨h1, h2, h3, h4⟩ := h.cells k hk
  refine ⟨h1, by simpa using h2, ?_, fun i hi => ?_⟩
  · by_cases e : k = K
    · subst e
      rw [World.cell?_setCell_same _ _ _ h3]
      simp [twoM, hf, hx]
    · rw [World.cell?_setCell_other (a := ⟨g, 5 * K, none⟩) (b := ⟨g, 5 * k, none⟩) _ _ (by simp <;> omega), h3, twoM_ne e]
  · rw [World.cell?_setCell_other (a := ⟨g, 5 * K, none⟩) (b := ⟨g, 5 * k + 1 + i, none⟩) _ _ (by simp <;> omega)]
    exact h4 i hi

theorem uni_le {G : Gl} (hok : checkB G = true) (hn : G.n ≤ 500) {k : Nat} (hk : k < 4 * (G.n + G.n)) : (uniG G).tet k ≤ 1000 := by
  have key : ∀ j, j < 4 * G.n → G.tet j < 500 := fun j hj => by
    by_cases hneg : G.tet j < 0
    · omega
    · have := ok_face hok hj hneg
      omega
  simp only [uniG]
  split
  · have := key k (by assumption); omega
  · have := key (k - 4 * G.n) (by omega)
    unfold movF; split <;> omega
set_option maxRecDepth 100000 in
set_option maxHeartbeats 2000000 in
theorem twofold_walk (G : Gl) (w : World) (v : Value) (hG : GlAt w.heap.size w v G) (hok : checkB G = true) (hn : G.n ≤ 500) :
    Calls Try.prog 12 #[.agg #[v]] w fun e w' => ∃ u, e = .returned (.tuple #[.agg #[u], .int .i64 0]) ∧ GlAt w'.heap.size w' u (twoM G (4 * (G.n + G.n))) ∧ Below w.heap.size w w' := by
  have HG := Lib.hid (And.intro hG hok)
  obtain ⟨a, cap, rfl⟩ : ∃ a cap, v = .slice a G.n cap := by obtain ⟨a, _, _, cap, e, _⟩ := hG; exact ⟨a, cap, e⟩
  clear hG hok
  generalize hN : w.heap.size = N at *
  have HN := Lib.hid hN
  clear hN
  go_enter Try.func12, Try.ntmps12
  go_wp2_with fail
  refine wp_world_named fun W0 hW => ?_
  have h0 : Below N w W0 ∧ W0.cell? ⟨w.heap.size, 0, none⟩ = some (.slice a G.n cap) ∧ W0.cell? ⟨w.heap.size + 1, 0, none⟩ = some (.slice none 0 0) ∧ W0.frozen? ⟨w.heap.size + 1, 0, none⟩ = false ∧ W0.heap.size = N + 2 := by
    rw [hW, ← HN.out]; exact ⟨by (repeat' (first | assumption | exact Below.refl _ _ | refine below_then ?_ (by assumption) | refine below_al ?_ _ | refine below_dr ?_ | refine below_sc ?_ (by simp <;> omega) _)), by simp [go_sem], by simp [go_sem], by simp [go_sem], by simp⟩
  clear hW
  rw [HN.out] at h0 ⊢
  obtain ⟨hb, c0, c1, z1, hz⟩ := h0
  refine (union_walk G W0 (.slice a G.n cap) ((HG.out.1.below hb).mono (by omega)) HG.out.2 hn).mono ?_
  rintro e W1 ⟨ga, gc, rfl, hown, hb1⟩
  have k1 : Below N w W1 ∧ W1.cell? ⟨N, 0, none⟩ = some (.slice a G.n cap) ∧ W1.cell? ⟨N + 1, 0, none⟩ = some (.slice none 0 0) ∧ W1.frozen? ⟨N + 1, 0, none⟩ = false :=
    ⟨hb.trans (hb1.mono (by omega)), (hb1.cell (p := ⟨N, 0, none⟩) (lt_of_cell c0)).trans c0, (hb1.cell (p := ⟨N + 1, 0, none⟩) (lt_of_cell c1)).trans c1, (hb1.frozen (p := ⟨N + 1, 0, none⟩) (lt_of_cell c1)).trans z1⟩
  rw [hz] at hown
  have H1 := Lib.hid (And.intro hown k1)
  clear hown hb hb1 hz c0 c1 z1
  obtain ⟨-, c0, c1, z1⟩ := k1
  have c0a := cell_al c0
  obtain ⟨m, hm⟩ : ∃ m, m = G.n + G.n := ⟨_, rfl⟩
  rw [← hm] at H1 ⊢
  have HM := Lib.hid hm
  clear hm
  go_wp2
  refine wp_named fun W2 hW => ?_
  obtain ⟨E, hE⟩ : ∃ E, E = W1.heap.size := ⟨_, rfl⟩
  rw [← hE]
  have h2 : ∃ g, TW W2 w N E g ga gc (.slice a G.n cap) G m 0 := by
    obtain ⟨hown, hb, c0, c1, z1⟩ := H1.out
    have hm := HM.out
    have hg2 : W1.grownBy W2 none := by rw [hW]; exact World.grownBy_alloc _ _ _
    have hc1 := lt_of_cell c1
    simp only at hc1
    have base : W2.cell? ⟨N, 0, none⟩ = some (.slice a G.n cap) ∧ W2.cell? ⟨N + 1, 0, none⟩ = some (.slice none 0 0) ∧ W2.frozen? ⟨N + 1, 0, none⟩ = false ∧ W2.cell? ⟨E, 0, none⟩ = some (.slice ga m gc) ∧ Below N w W2 :=
      ⟨hg2.cell c0 (by simp), hg2.cell c1 (by simp), (hg2.frozen_far ⟨N + 1, 0, none⟩ hc1 (by simp)).trans z1, by rw [hW]; exact World.cell?_alloc_at _ _ _ _ hE, by rw [hW]; exact hb.alloc (by omega) _⟩
    by_cases h0 : m = 0
    · refine ⟨N + 2, base.1, base.2.1, base.2.2.1, base.2.2.2.1, fun k hk => by omega, fun h => by omega, fun h => by omega, fun h => by omega, base.2.2.2.2⟩
    · obtain ⟨g, gcap, hv, hlo, hlt⟩ := hown.form (by omega)
      obtain ⟨rfl, rfl⟩ : ga = some ⟨g, 0, none⟩ ∧ gc = gcap := by simpa using hv
      refine ⟨g, base.1, base.2.1, base.2.2.1, base.2.2.2.1, fun k hk => ?_, fun _ o => ?_, fun _ => by omega, fun _ => by omega, base.2.2.2.2⟩
      · have hs2 := hg2.size
        have hcell : ∀ j u, (gpre (uniG G) m)[j]? = some u → W2.cell? ⟨g, j, none⟩ = some u := fun j u hu => by
          have := hown.cells (g := g) rfl j u hu
          rw [Addr.add_mid, Nat.zero_add] at this
          exact hg2.cell this (by simp)
        have hgl : GlAt W2.heap.size W2 (.slice (some ⟨g, 0, none⟩) (uniG G).n gc) (uniG G) := GlAt.of_cells (by omega) (fun j u hu => hcell j u (by rw [hm]; exact hu))
        obtain ⟨a', b', off', cap', hv', ha', hc'⟩ := hgl
        have hun : (uniG G).n = m := hm.symm
        have hb' := ha' (by omega)
        obtain ⟨h1, -⟩ : some ⟨g, 0, none⟩ = a' ∧ gc = cap' := by simpa using hv'
        rw [hb'.1] at h1
        obtain ⟨rfl, rfl⟩ : g = b' ∧ 0 = off' := by simpa using h1
        have hck := hc' k (by omega)
        rw [Nat.zero_add] at hck
        refine ⟨rfl, by omega, ?_, hck.2⟩
        rw [hck.1]; rfl
      · have hfr : W1.frozen? ⟨g, o, none⟩ = false := by
          rcases hown.2 with ⟨h1, -⟩ | ⟨g', cap', cur, h1, -, h2, -⟩
          · cases h1
          · obtain ⟨rfl, -⟩ : g = g' ∧ gc = cap' := by simpa using h1
            simp [World.frozen?, h2]
        exact (hg2.frozen_far ⟨g, o, none⟩ hlt (by simp)).trans hfr
  obtain ⟨g, h2⟩ := h2
  clear hE
  have H2 := Lib.hid h2
  clear h2 hW H1 c0 c1 z1 c0a
  have hmb : m ≤ 1000 := by have := HM.out; omega
  go_loopw [7] (fun i wr => ∃ t : Nat, t ≤ m ∧ i = .int .i64 t ∧ TW wr w N E g ga gc (.slice a G.n cap) G m (4 * t)) (fun i _ => m - (intOf i).toNat)
  case atStart => exact ⟨0, by omega, rfl, H2.out⟩
  case round =>
    clear H2
    obtain ⟨t, ht, rfl, hT⟩ := hrel
    have HK := Lib.hid hT
    clear hT
    have qm : IntKind.i64.wrap (2 * (G.n : Int)) = (m : Int) := by have := HM.out; rw [IntWalk.i64_in _ (by omega)]; omega
    rcases Nat.lt_or_ge t m with htn | htn
    · go_wp2
      go_loopw [8] (fun i wr => ∃ f : Nat, f ≤ 4 ∧ i = .int .i64 f ∧ TW wr w N E g ga gc (.slice a G.n cap) G m (4 * t + f)) (fun i _ => 4 - (intOf i).toNat)
      case atStart => exact ⟨0, by omega, rfl, HK.out⟩
      case round =>
        clear HK
        obtain ⟨f, hf, rfl, hT⟩ := hrel
        have HK := Lib.hid hT
        rcases Nat.lt_or_ge f 4 with hf4 | hf4
        · have hk : 4 * t + f < 4 * m := by omega
          obtain ⟨rfl, hgl, h3, h4⟩ := hT.cells _ hk
          rw [show 5 * (4 * t + f) = t * 20 + f * 5 by omega] at h3 h4
          have hX : (twoM G (4 * t + f)).tet (4 * t + f) = (uniG G).tet (4 * t + f) := by simp [twoM]
          rw [hX] at h3
          have p0 : wr.cell? ⟨g, t * 20 + f * 5 + 1, none⟩ = some (.int .i64 ((uniG G).pm (4 * t + f) 0)) := h4 0 (by omega)
          have p1 : wr.cell? ⟨g, t * 20 + f * 5 + 2, none⟩ = some (.int .i64 ((uniG G).pm (4 * t + f) 1)) := h4 1 (by omega)
          have p2 : wr.cell? ⟨g, t * 20 + f * 5 + 3, none⟩ = some (.int .i64 ((uniG G).pm (4 * t + f) 2)) := h4 2 (by omega)
          have p3 : wr.cell? ⟨g, t * 20 + f * 5 + 4, none⟩ = some (.int .i64 ((uniG G).pm (4 * t + f) 3)) := h4 3 (by omega)
          have hle := uni_le HG.out.2 hn (k := 4 * t + f) (by have := HM.out; omega)
          have hfl : flipB G (4 * t + f) = (decide (0 ≤ (uniG G).tet (4 * t + f)) && SignR ((uniG G).pm (4 * t + f)) == 1) := rfl
          obtain ⟨q, hq⟩ : ∃ q, q = (uniG G).pm (4 * t + f) := ⟨_, rfl⟩
          have h47 := fun W => rsign_walk q W
          unfold P4 at h47
          obtain ⟨sg, hsg⟩ : ∃ sg, sg = SignR q := ⟨_, rfl⟩
          rw [← hsg] at h47
          rw [← hq] at p0 p1 p2 p3 hfl
          rw [← hsg] at hfl
          generalize hTT : (uniG G).tet (4 * t + f) = T at *
          have HX := Lib.hid (And.intro hTT (And.intro hfl h47))
          have x3 := hT.e0
          have t0 : 0 ≤ (t : Int) := by omega
          have tm : (t : Int) < (m : Int) := by omega
          have f0 : 0 ≤ (f : Int) := by omega
          have f4 : (f : Int) < 4 := by omega
          clear hT h4 hX hq hsg hfl h47 hgl hTT
          by_cases hneg : T < 0
          · have qn : decide (0 ≤ T) = false := by simp; omega
            go_wp2
            go_roundw
            case rel => exact ⟨f + 1, by omega, rfl, (HK.out.skip (by rw [HX.out.2.1, qn]; rfl)).below ((Below.refl _ _).alloc (Nat.le_refl _) _)⟩
            case measure => simp [intOf]; omega
          · have qn : decide (0 ≤ T) = true := by simp; omega
            go_wp2_with fail
            refine wp_world_named fun W4 hW4 => ?_
            obtain ⟨F, hF⟩ : ∃ F, F = wr.heap.size := ⟨_, rfl⟩
            have tr : TW W4 w N E g (some ⟨g, 0, none⟩) gc (.slice a G.n cap) G m (4 * t + f) := by rw [hW4]; exact HK.out.below ((Below.refl _ _).alloc (Nat.le_refl _) _)
            have cF : W4.cell? ⟨F, 0, none⟩ = some (.int .i64 T) := by rw [hW4]; exact World.cell?_alloc_at _ _ _ _ hF
            rw [← hF]
            clear hW4 hF p0 p1 p2 p3 h3 x3 HK
            refine (HX.out.2.2 _).mono ?_
            rintro e W5 ⟨rfl, hb5⟩
            have tr5 := tr.below hb5
            have cF5 := (hb5.cell (p := ⟨F, 0, none⟩) (lt_of_cell cF)).trans cF
            have H5 := Lib.hid tr5
            clear tr hb5 cF
            by_cases hs1 : sg = 1
            · have b2 : (sg == 1) = true := by simpa using hs1
              have HS1 := Lib.hid hs1
              have x3 := tr5.e0
              have y3 : W5.drew.cell? ⟨E, 0, none⟩ = some (.slice (some ⟨g, 0, none⟩) m gc) := tr5.e0
              have yF : W5.drew.cell? ⟨F, 0, none⟩ = some (.int .i64 T) := cF5
              have trd := tr5.below (below_dr (Below.refl _ _))
              obtain ⟨-, -, h3, -⟩ := trd.cells _ hk
              have z3 := trd.fr (by omega) (t * 20 + f * 5)
              rw [show 5 * (4 * t + f) = t * 20 + f * 5 by omega, show (twoM G (4 * t + f)).tet (4 * t + f) = (uniG G).tet (4 * t + f) by simp [twoM], HX.out.1] at h3
              have HD := Lib.hid trd
              have q5 : IntKind.i64.wrap (T + (G.n : Int)) = T + G.n := IntWalk.i64_in _ (by omega)
              have m0 : ¬ m = 0 := by omega
              obtain ⟨x, hx⟩ : ∃ x : Int, x = (T + (G.n : Int)) % (m : Int) := ⟨_, rfl⟩
              have q6 : (T + (G.n : Int)).tmod (m : Int) = x := by rw [hx, Int.tmod_eq_emod_of_nonneg (by omega)]
              have HXX := Lib.hid hx
              clear hs1 tr5 trd hx
              go_wp2
              refine region_tail 14 (by kernel_rfl) (by kernel_rfl) ?_
              simp only [List.take_succ_cons, List.take_zero, List.drop_succ_cons, List.drop_zero]
              repeat (refine wpStill_step (fun K hK => ?_); go_simp; refine hK _ ?_; clear hK K)
              refine wpStill_nil ?_
              go_wp2
              go_roundw
              case rel =>
                refine ⟨f + 1, by omega, rfl, ?_⟩
                rw [show t * 20 + f * 5 = 5 * (4 * t + f) by omega]
                exact HD.out.turn (by omega) (by rw [HX.out.2.1, qn, b2]; rfl) (by rw [HXX.out, HX.out.1]; have := HM.out; congr 1; omega)
              case measure => simp [intOf]; omega
            · have b2 : (sg == 1) = false := by simpa using hs1
              clear hs1 tr5
              go_wp2
              go_roundw
              case rel => exact ⟨f + 1, by omega, rfl, H5.out.skip (by rw [HX.out.2.1, qn, b2]; rfl)⟩
              case measure => simp [intOf]; omega
        · obtain rfl : f = 4 := by omega
          clear hT
          go_wp2
          go_roundw
          case rel => exact ⟨t + 1, by omega, rfl, HK.out⟩
          case measure => simp [intOf]; omega
    · obtain rfl : t = m := by omega
      obtain ⟨x1, x2, z2, x3, -, -, -, -, -⟩ := HK.out
      go_wp2
      refine bodyPost_ret (v := .tuple #[.agg #[.slice ga t gc], .int .i64 0]) (by simp [results, Try.results12, go_sem, *]) rfl ⟨_, rfl, ?_, ?_⟩
      · have hm := HM.out
        refine ⟨ga, g, 0, gc, by rw [hm]; rfl, fun hp => ?_, fun k hk => ?_⟩
        · obtain ⟨h1, h2, -, -⟩ := HK.out.cells 0 (by have : (twoM G (4 * (G.n + G.n))).n = G.n + G.n := rfl; omega)
          exact ⟨h1, by simpa using h2⟩
        · have hk' : k < 4 * t := by have : (twoM G (4 * (G.n + G.n))).n = G.n + G.n := rfl; omega
          obtain ⟨h1, h2, h3, h4⟩ := HK.out.cells k hk'
          have n1 := HK.out.ne1 (by omega)
          rw [hm] at h3 h4
          refine ⟨?_, fun i hi => ?_⟩
          · rw [Nat.zero_add, World.cell?_setCell_other (a := ⟨N + 1, 0, none⟩) (b := ⟨g, 5 * k, none⟩) _ _ (by simp <;> omega)]; exact h3
          · rw [Nat.zero_add, World.cell?_setCell_other (a := ⟨N + 1, 0, none⟩) (b := ⟨g, 5 * k + 1 + i, none⟩) _ _ (by simp <;> omega)]; exact h4 i hi
      · exact HK.out.bel.setCell (by show N ≤ N + 1; omega) _
end Go.Proofs.Ytlckpgahijlmoaa
