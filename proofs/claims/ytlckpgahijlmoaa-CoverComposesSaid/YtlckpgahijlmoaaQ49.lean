/- R11's Compose: what lies in memory while it runs. -/
import Derived.Test.YtlckpgahijlmoaaQ48
import Derived.Test.YtlckpgahijlmoaaQ18
namespace Go.Proofs.Ytlckpgahijlmoaa
open Go.RowKit Go.Shelf Go.Maps

theorem rerI_is {G : Gl} {S : Int} {np : Nat} {len : Nat → Nat} {fp : Nat → Nat → Int} (h : askI G = 0) : (rerI G S np len fp = 0 ↔ IsP G S np len fp) := by
  unfold rerI
  rw [if_pos h]
  by_cases q : IsP G S np len fp
  · rw [boolOf_true q]; exact ⟨fun _ => q, fun _ => rfl⟩
  · rw [boolOf_false q]; exact ⟨fun e => by simp at e, fun e => absurd e q⟩
/-- a skeleton in a box -/
structure SB (W : World) (D : Nat) (va : Option Addr) (vn vc : Nat) (ea : Option Addr) (en ec : Nat) (ta : Option Addr) (tn tc : Nat) (da : Option Addr) (dn dc : Nat) (ra : Option Addr) (rn rc : Nat) (la : Option Addr) (ln lc : Nat) : Prop where
  d0 : W.cell? ⟨D, 0, none⟩ = some (.slice va vn vc)
  d1 : W.cell? ⟨D, 1, none⟩ = some (.slice ea en ec)
  d2 : W.cell? ⟨D, 2, none⟩ = some (.slice ta tn tc)
  d3 : W.cell? ⟨D, 3, none⟩ = some (.slice da dn dc)
  d4 : W.cell? ⟨D, 4, none⟩ = some (.slice ra rn rc)
  d5 : W.cell? ⟨D, 5, none⟩ = some (.slice la ln lc)
section
variable {W W' : World} {D : Nat} {va : Option Addr} {vn vc : Nat} {ea : Option Addr} {en ec : Nat} {ta : Option Addr} {tn tc : Nat} {da : Option Addr} {dn dc : Nat} {ra : Option Addr} {rn rc : Nat} {la : Option Addr} {ln lc : Nat}
theorem SB.kept {row : Option Nat} (h : SB W D va vn vc ea en ec ta tn tc da dn dc ra rn rc la ln lc) (hg : W.grownBy W' row) (hr : some D ≠ row) : SB W' D va vn vc ea en ec ta tn tc da dn dc ra rn rc la ln lc :=
  ⟨hg.cell h.d0 hr, hg.cell h.d1 hr, hg.cell h.d2 hr, hg.cell h.d3 hr, hg.cell h.d4 hr, hg.cell h.d5 hr⟩
end
/-- six cells lie at D -/
def Six (W : World) (D : Nat) : Prop := D < W.heap.size ∧ ∀ o, o < 6 → ∃ v, W.cell? ⟨D, o, none⟩ = some v
theorem Six.made {W : World} {D : Nat} (hD : D = W.heap.size) (a b c d e f : Value) : Six (W.alloc (.cells #[a, b, c, d, e, f] 54)) D :=
  ⟨by rw [hD]; simp, fun o ho => by
    rw [World.cell?_alloc_at _ _ _ _ hD]
    rcases (show o = 0 ∨ o = 1 ∨ o = 2 ∨ o = 3 ∨ o = 4 ∨ o = 5 by omega) with rfl | rfl | rfl | rfl | rfl | rfl <;> exact ⟨_, rfl⟩⟩
theorem Six.al {W : World} {D : Nat} (h : Six W D) (o : Obj) : Six (W.alloc o) D :=
  ⟨by have := h.1; simp; omega, fun i hi => by obtain ⟨v, hv⟩ := h.2 i hi; exact ⟨v, (World.grownBy_alloc W o none).cell hv (by simp)⟩⟩
theorem Six.dr {W : World} {D : Nat} (h : Six W D) : Six W.drew D := h
theorem Six.bl {W W' : World} {D : Nat} (h : Six W D) (hb : Below W.heap.size W W') : Six W' D :=
  ⟨Nat.lt_of_lt_of_le h.1 hb.size, fun i hi => by obtain ⟨v, hv⟩ := h.2 i hi; exact ⟨v, (hb.cell (p := ⟨D, i, none⟩) h.1).trans hv⟩⟩
theorem Six.sc {W : World} {D D' o' : Nat} {v : Value} (h : Six W D) : Six (W.setCell ⟨D', o', none⟩ v) D :=
  ⟨by have := h.1; simp; omega, fun i hi => by
    obtain ⟨x, hx⟩ := h.2 i hi
    by_cases e : (⟨D', o', none⟩ : Addr) = ⟨D, i, none⟩
    · rw [e]; exact ⟨v, World.cell?_setCell_same _ _ _ hx⟩
    · exact ⟨x, (World.cell?_setCell_other (a := ⟨D', o', none⟩) (b := ⟨D, i, none⟩) _ _ e).trans hx⟩⟩
section
variable {W W' : World} {D : Nat} {va : Option Addr} {vn vc : Nat} {ea : Option Addr} {en ec : Nat} {ta : Option Addr} {tn tc : Nat} {da : Option Addr} {dn dc : Nat} {ra : Option Addr} {rn rc : Nat} {la : Option Addr} {ln lc : Nat}
theorem SB.made (hD : D = W.heap.size) : SB (W.alloc (.cells #[.slice va vn vc, .slice ea en ec, .slice ta tn tc, .slice da dn dc, .slice ra rn rc, .slice la ln lc] 54)) D va vn vc ea en ec ta tn tc da dn dc ra rn rc la ln lc :=
  ⟨World.cell?_alloc_at _ _ _ _ hD, World.cell?_alloc_at _ _ _ _ hD, World.cell?_alloc_at _ _ _ _ hD, World.cell?_alloc_at _ _ _ _ hD, World.cell?_alloc_at _ _ _ _ hD, World.cell?_alloc_at _ _ _ _ hD⟩
theorem SB.al (h : SB W D va vn vc ea en ec ta tn tc da dn dc ra rn rc la ln lc) (o : Obj) : SB (W.alloc o) D va vn vc ea en ec ta tn tc da dn dc ra rn rc la ln lc := h.kept (World.grownBy_alloc W o none) (by simp)
theorem SB.dr (h : SB W D va vn vc ea en ec ta tn tc da dn dc ra rn rc la ln lc) : SB W.drew D va vn vc ea en ec ta tn tc da dn dc ra rn rc la ln lc := h.kept (grownBy_drew W none) (by simp)
theorem SB.bl (h : SB W D va vn vc ea en ec ta tn tc da dn dc ra rn rc la ln lc) (hb : Below W.heap.size W W') : SB W' D va vn vc ea en ec ta tn tc da dn dc ra rn rc la ln lc := h.kept (below_grown hb (Nat.le_refl _) none) (by simp)
theorem SB.sc {D' o' : Nat} {v : Value} (h : SB W D va vn vc ea en ec ta tn tc da dn dc ra rn rc la ln lc) (hD : D ≠ D') : SB (W.setCell ⟨D', o', none⟩ v) D va vn vc ea en ec ta tn tc da dn dc ra rn rc la ln lc := h.kept (grownBy_setCell W D' o' v) (by simpa using hD)
theorem cell_sc {W : World} {D i j : Nat} {v x : Value} (h : W.cell? ⟨D, i, none⟩ = some x) (hne : j ≠ i) : (W.setCell ⟨D, j, none⟩ v).cell? ⟨D, i, none⟩ = some x := (World.cell?_setCell_other (a := ⟨D, j, none⟩) (b := ⟨D, i, none⟩) _ _ (fun e => hne (by injection e))).trans h
theorem SB.stored (h : Six W D) : SB ((((((W.setCell ⟨D, 0, none⟩ (.slice va vn vc)).setCell ⟨D, 1, none⟩ (.slice ea en ec)).setCell ⟨D, 2, none⟩ (.slice ta tn tc)).setCell ⟨D, 3, none⟩ (.slice da dn dc)).setCell ⟨D, 4, none⟩ (.slice ra rn rc)).setCell ⟨D, 5, none⟩ (.slice la ln lc)) D va vn vc ea en ec ta tn tc da dn dc ra rn rc la ln lc := by
  have h0 := h.sc (D' := D) (o' := 0) (v := .slice va vn vc)
  have h1 := h0.sc (D' := D) (o' := 1) (v := .slice ea en ec)
  have h2 := h1.sc (D' := D) (o' := 2) (v := .slice ta tn tc)
  have h3 := h2.sc (D' := D) (o' := 3) (v := .slice da dn dc)
  have h4 := h3.sc (D' := D) (o' := 4) (v := .slice ra rn rc)
  obtain ⟨_, x0⟩ := h.2 0 (by omega)
  obtain ⟨_, x1⟩ := h0.2 1 (by omega)
  obtain ⟨_, x2⟩ := h1.2 2 (by omega)
  obtain ⟨_, x3⟩ := h2.2 3 (by omega)
  obtain ⟨_, x4⟩ := h3.2 4 (by omega)
  obtain ⟨_, x5⟩ := h4.2 5 (by omega)
  exact ⟨cell_sc (cell_sc (cell_sc (cell_sc (cell_sc (World.cell?_setCell_same _ _ _ x0) (by omega)) (by omega)) (by omega)) (by omega)) (by omega),
    cell_sc (cell_sc (cell_sc (cell_sc (World.cell?_setCell_same _ _ _ x1) (by omega)) (by omega)) (by omega)) (by omega),
    cell_sc (cell_sc (cell_sc (World.cell?_setCell_same _ _ _ x2) (by omega)) (by omega)) (by omega),
    cell_sc (cell_sc (World.cell?_setCell_same _ _ _ x3) (by omega)) (by omega), cell_sc (World.cell?_setCell_same _ _ _ x4) (by omega), World.cell?_setCell_same _ _ _ x5⟩
end
/-- a skeleton's triangles' numbers, in a block between K and B -/
def SKW (K B : Nat) (W : World) (ta : Option Addr) (G : Gl) : Prop := ∃ b, (0 < G.n → ta = some ⟨b, 0, none⟩ ∧ K ≤ b ∧ b < B) ∧ ∀ k, k < 4 * G.n → W.cell? ⟨b, k, none⟩ = some (.int .i64 (fN G k : Nat))
theorem SkR.skw {W : World} {B : Nat} {sv : Value} {G : Gl} (h : SkR W B sv G) : ∃ va vc ea ec ta tc da dn dc ra rn rc la ln lc, sv = .agg #[.slice va G.n vc, .slice ea G.n ec, .slice ta G.n tc, .slice da dn dc, .slice ra rn rc, .slice la ln lc] ∧ SKW B W.heap.size W ta G := by
  obtain ⟨vv, ev, tv, lv, dB, rB, xs, rfl, h1, h2, h3, h4, -, -, -, -⟩ := h.ex
  obtain ⟨va, vc, rfl⟩ := ownsRow_form h1
  obtain ⟨ea, ec, rfl⟩ := ownsRow_form h2
  obtain ⟨la, lc, rfl⟩ := ownsRow_form h4
  obtain ⟨ta, tc, rfl⟩ := ownsRow_form h3
  refine ⟨va, vc, ea, ec, ta, tc, _, _, _, _, _, _, la, _, lc, rfl, ?_⟩
  rcases Nat.eq_zero_or_pos G.n with h0 | h0
  · exact ⟨0, fun h => by omega, fun k hk => by omega⟩
  · obtain ⟨b, tc', e, h5, hlt⟩ := h3.form h0
    obtain ⟨rfl, rfl⟩ : ta = some ⟨b, 0, none⟩ ∧ tc = tc' := by simpa using e
    refine ⟨b, fun _ => ⟨rfl, (h3.lt b rfl).1, hlt⟩, fun k hk => ?_⟩
    have := h3.cells (g := b) rfl k _ (ints_get (fN G) (4 * G.n) k hk)
    rwa [Addr.add_mid, Nat.zero_add] at this
/-- the blocks between K and B are as they were -/
def Tr (K B : Nat) (W W' : World) : Prop := B ≤ W'.heap.size ∧ ∀ b, K ≤ b → b < B → W'.heap[b]? = W.heap[b]?
theorem Tr.refl (K : Nat) (W : World) : Tr K W.heap.size W W := ⟨Nat.le_refl _, fun _ _ _ => rfl⟩
theorem Tr.al {K B : Nat} {W W1 : World} (h : Tr K B W W1) (o : Obj) : Tr K B W (W1.alloc o) :=
  ⟨Nat.le_trans h.1 (World.grownBy_alloc W1 o none).size, fun b h1 h2 => ((World.grownBy_alloc W1 o none).block b (Nat.lt_of_lt_of_le h2 h.1) (by simp)).trans (h.2 b h1 h2)⟩
theorem Tr.dr {K B : Nat} {W W1 : World} (h : Tr K B W W1) : Tr K B W W1.drew := h
theorem Tr.bl {K B : Nat} {W W1 W2 : World} (h : Tr K B W W1) (hb : Below W1.heap.size W1 W2) : Tr K B W W2 :=
  ⟨Nat.le_trans h.1 hb.size, fun b h1 h2 => (hb.block b (Nat.lt_of_lt_of_le h2 h.1)).trans (h.2 b h1 h2)⟩
theorem Tr.sc {K B D o : Nat} {W W1 : World} {v : Value} (h : Tr K B W W1) (hD : D < K ∨ B ≤ D) : Tr K B W (W1.setCell ⟨D, o, none⟩ v) :=
  ⟨Nat.le_trans h.1 (grownBy_setCell W1 D o v).size, fun b h1 h2 => ((grownBy_setCell W1 D o v).block b (Nat.lt_of_lt_of_le h2 h.1) (by simp; omega)).trans (h.2 b h1 h2)⟩
theorem SKW.of {K : Nat} {W W' : World} {ta : Option Addr} {G : Gl} (h : SKW K W.heap.size W ta G) (hk : Tr K W.heap.size W W') : SKW K W'.heap.size W' ta G := by
  obtain ⟨b, q1, q2⟩ := h
  exact ⟨b, fun h0 => ⟨(q1 h0).1, (q1 h0).2.1, Nat.lt_of_lt_of_le (q1 h0).2.2 hk.1⟩, fun k hk1 => (World.cell?_of_block (w := W) (w' := W') (a := ⟨b, k, none⟩) (hk.2 b (q1 (by omega)).2.1 (q1 (by omega)).2.2)).trans (q2 k hk1)⟩
/-- a skeleton in a box, with its triangles' numbers -/
def SKB (W : World) (D : Nat) (G : Gl) : Prop := ∃ va vc ea ec ta tc da dn dc ra rn rc la ln lc K, SB W D va G.n vc ea G.n ec ta G.n tc da dn dc ra rn rc la ln lc ∧ SKW K W.heap.size W ta G
theorem SKW.skv {K : Nat} {W : World} {va : Option Addr} {vc : Nat} {ea : Option Addr} {ec : Nat} {ta : Option Addr} {tc : Nat} {da : Option Addr} {dn dc : Nat} {ra : Option Addr} {rn rc : Nat} {la : Option Addr} {ln lc : Nat} {G : Gl} (h : SKW K W.heap.size W ta G) :
    SKV W.heap.size W (.agg #[.slice va G.n vc, .slice ea G.n ec, .slice ta G.n tc, .slice da dn dc, .slice ra rn rc, .slice la ln lc]) G := by
  obtain ⟨b, q1, q2⟩ := h
  exact ⟨va, vc, ea, ec, ta, b, tc, da, dn, dc, ra, rn, rc, la, ln, lc, rfl, fun h0 => ⟨(q1 h0).1, (q1 h0).2.2⟩, q2⟩
theorem SKW.below {K : Nat} {W W' : World} {ta : Option Addr} {G : Gl} (h : SKW K W.heap.size W ta G) (hb : Below W.heap.size W W') : SKW K W'.heap.size W' ta G := by
  obtain ⟨b, q1, q2⟩ := h
  have hs := hb.size
  exact ⟨b, fun h0 => ⟨(q1 h0).1, (q1 h0).2.1, by have := (q1 h0).2.2; omega⟩, fun k hk => (hb.cell (p := ⟨b, k, none⟩) (q1 (by omega)).2.2).trans (q2 k hk)⟩
/-- the boxes of Compose: the gluing, the coverings, the result -/
structure C7 (w W : World) (N : Nat) (ga : Option Addr) (gn gc : Nat) (S : Int) (pa : Option Addr) (np pc : Nat) (T : Int) (pa2 : Option Addr) (np2 pc2 : Nat) : Prop where
  bel : Below N w W
  c0 : W.cell? ⟨N, 0, none⟩ = some (.slice ga gn gc)
  c1 : W.cell? ⟨N + 1, 0, none⟩ = some (.int .i64 S)
  c2 : W.cell? ⟨N + 1, 1, none⟩ = some (.slice pa np pc)
  c3 : W.cell? ⟨N + 1 + 1, 0, none⟩ = some (.int .i64 T)
  c4 : W.cell? ⟨N + 1 + 1, 1, none⟩ = some (.slice pa2 np2 pc2)
  r0 : W.cell? ⟨N + 1 + 1 + 1, 0, none⟩ = some (.int .i64 0)
  r1 : W.cell? ⟨N + 1 + 1 + 1, 1, none⟩ = some (.slice none 0 0)
  f0 : W.frozen? ⟨N + 1 + 1 + 1, 0, none⟩ = false
  f1 : W.frozen? ⟨N + 1 + 1 + 1, 1, none⟩ = false
section
variable {w W W' : World} {N : Nat} {ga : Option Addr} {gn gc : Nat} {S : Int} {pa : Option Addr} {np pc : Nat} {T : Int} {pa2 : Option Addr} {np2 pc2 : Nat}
theorem C7.lt (h : C7 w W N ga gn gc S pa np pc T pa2 np2 pc2) : N + 4 ≤ W.heap.size := by
  have := lt_of_cell h.r0; simp only at this; omega
theorem C7.below (h : C7 w W N ga gn gc S pa np pc T pa2 np2 pc2) (hb : Below W.heap.size W W') : C7 w W' N ga gn gc S pa np pc T pa2 np2 pc2 := by
  have hg := below_grown hb (Nat.le_refl _) none
  have hN := h.lt
  exact ⟨h.bel.trans (hb.mono (by omega)), hg.cell h.c0 (by simp), hg.cell h.c1 (by simp), hg.cell h.c2 (by simp), hg.cell h.c3 (by simp), hg.cell h.c4 (by simp), hg.cell h.r0 (by simp), hg.cell h.r1 (by simp),
    (hg.frozen_far ⟨N + 1 + 1 + 1, 0, none⟩ (lt_of_cell h.r0) (by simp)).trans h.f0, (hg.frozen_far ⟨N + 1 + 1 + 1, 1, none⟩ (lt_of_cell h.r1) (by simp)).trans h.f1⟩
end
/-- the lists of the composition under way: the struct at D, its lists at d; dn: the classes done -/
structure RC (W0 W : World) (K D d np ST : Nat) (E : Nat → Nat → Int) (dn : Nat → Prop) : Prop where
  bel : Below K W0 W
  p0 : W.cell? ⟨D, 0, none⟩ = some (.int .i64 (ST : Int))
  p1 : W.cell? ⟨D, 1, none⟩ = some (.slice (some ⟨d, 0, none⟩) np np)
  cell : ∀ c, c < np → ∃ a l k, W.cell? ⟨d, c, none⟩ = some (.slice a l k)
  fr : ∀ c, W.frozen? ⟨d, c, none⟩ = false
  row : ∀ c, c < np → dn c → ∃ e, W.cell? ⟨d, c, none⟩ = some (.slice (some ⟨e, 0, none⟩) ST ST) ∧ K ≤ e ∧ d ≠ e ∧ IntRow W e ST (E c)
  lo : K ≤ D ∧ K ≤ d ∧ D ≠ d ∧ d < W.heap.size
theorem RC.below {W0 W W' : World} {K D d np ST : Nat} {E : Nat → Nat → Int} {dn : Nat → Prop} (h : RC W0 W K D d np ST E dn) (hb : Below W.heap.size W W') : RC W0 W' K D d np ST E dn := by
  have hg := below_grown hb (Nat.le_refl _) none
  obtain ⟨l1, l2, l3, l4⟩ := h.lo
  have hs := hb.size
  refine ⟨h.bel.trans (hb.mono (by omega)), hg.cell h.p0 (by simp), hg.cell h.p1 (by simp), fun c hc => ?_, fun c => (hg.frozen_far ⟨d, c, none⟩ l4 (by simp)).trans (h.fr c), fun c hc hd => ?_, l1, l2, l3, by omega⟩
  · obtain ⟨a, l, k, e⟩ := h.cell c hc; exact ⟨a, l, k, hg.cell e (by simp)⟩
  · obtain ⟨e, e1, e2, e3, e4⟩ := h.row c hc hd
    exact ⟨e, hg.cell e1 (by simp), e2, e3, rowIs_kept e4 hg (by simp)⟩
theorem RC.newA (W : World) (np ST : Nat) (E : Nat → Nat → Int) : RC W ((W.alloc (.cells (madeCells #[.slice none 0 0] np) 35)).alloc (.cells #[.int .i64 (ST : Int), .slice (some ⟨W.heap.size, 0, none⟩) np np] 28)).drew W.heap.size (W.heap.size + 1) W.heap.size np ST E (fun _ => False) := by
  have h := rowIs_kept (World.rowIs_made W (.slice none 0 0) np 35) (World.grownBy_alloc _ (.cells #[.int .i64 (ST : Int), .slice (some ⟨W.heap.size, 0, none⟩) np np] 28) none) (by simp)
  refine ⟨by (repeat' (first | assumption | exact Below.refl _ _ | refine below_then ?_ (by assumption) | refine below_al ?_ _ | refine below_dr ?_ | refine below_sc ?_ (by simp <;> omega) _)), ?_, ?_, fun c hc => ⟨none, 0, 0, h.cell hc⟩, fun c => h.frozen c, fun _ _ hd => hd.elim, by omega, Nat.le_refl _, by omega, by simp; omega⟩
  · show World.cell? ((W.alloc _).alloc _) _ = _
    rw [World.cell?_alloc_at _ _ _ _ (by simp)]; rfl
  · show World.cell? ((W.alloc _).alloc _) _ = _
    rw [World.cell?_alloc_at _ _ _ _ (by simp)]; rfl
theorem RC.newB (W : World) (np ST : Nat) (E : Nat → Nat → Int) : RC W ((W.alloc (.cells #[.int .i64 (ST : Int), .slice (some ⟨W.heap.size + 1, 0, none⟩) np np] 28)).alloc (.cells (madeCells #[.slice none 0 0] np) 35)).drew W.heap.size W.heap.size (W.heap.size + 1) np ST E (fun _ => False) := by
  have h := World.rowIs_made (W.alloc (.cells #[.int .i64 (ST : Int), .slice (some ⟨W.heap.size + 1, 0, none⟩) np np] 28)) (.slice none 0 0) np 35
  rw [World.size_alloc] at h
  have hc : ∀ o x, (#[Value.int .i64 (ST : Int), .slice (some ⟨W.heap.size + 1, 0, none⟩) np np] : Array Value)[o]? = some x → ((W.alloc (.cells #[.int .i64 (ST : Int), .slice (some ⟨W.heap.size + 1, 0, none⟩) np np] 28)).alloc (.cells (madeCells #[.slice none 0 0] np) 35)).cell? ⟨W.heap.size, o, none⟩ = some x := fun o x hx =>
    cell_al (by rw [World.cell?_alloc_at _ _ _ _ rfl]; exact hx) _
  exact ⟨by (repeat' (first | assumption | exact Below.refl _ _ | refine below_then ?_ (by assumption) | refine below_al ?_ _ | refine below_dr ?_ | refine below_sc ?_ (by simp <;> omega) _)), hc 0 _ rfl, hc 1 _ rfl, fun c hc => ⟨none, 0, 0, h.cell hc⟩, fun c => h.frozen c, fun _ _ hd => hd.elim, Nat.le_refl _, by omega, by omega, by simp⟩
/-- a list done is put in its place -/
theorem RC.put {W0 W W' : World} {K D d np ST c P : Nat} {E : Nat → Nat → Int} {dn : Nat → Prop} (h : RC W0 W K D d np ST E dn) (hb : Below W.heap.size W W') (hP : W.heap.size ≤ P) (hrow : IntRow W' P ST (E c)) :
    RC W0 (W'.setCell ⟨d, c, none⟩ (.slice (some ⟨P, 0, none⟩) ST ST)) K D d np ST E (fun x => x = c ∨ dn x) := by
  have h1 := h.below hb
  obtain ⟨l1, l2, l3, l4⟩ := h1.lo
  have l5 := h.lo.2.2.2
  have hsc := grownBy_setCell W' d c (.slice (some ⟨P, 0, none⟩) ST ST)
  refine ⟨h1.bel.setCell (by show K ≤ d; omega) _, hsc.cell h1.p0 (by simp; exact l3), hsc.cell h1.p1 (by simp; exact l3), fun x hx => ?_, fun x => by rw [World.frozen?_setCell]; exact h1.fr x, fun x hx hd => ?_, l1, l2, l3, by simp; exact l4⟩
  · obtain ⟨a, l, k, e⟩ := h1.cell x hx
    by_cases q : x = c
    · subst q; exact ⟨_, _, _, World.cell?_setCell_same _ _ _ e⟩
    · exact ⟨a, l, k, (World.cell?_setCell_other (a := ⟨d, c, none⟩) (b := ⟨d, x, none⟩) _ _ (by simp <;> exact fun z => q z.symm)).trans e⟩
  · by_cases q : x = c
    · subst q
      obtain ⟨a, l, k, e⟩ := h1.cell x hx
      exact ⟨P, World.cell?_setCell_same _ _ _ e, by omega, by omega, rowIs_kept hrow hsc (by simp; omega)⟩
    · obtain ⟨e, e1, e2, e3, e4⟩ := h1.row x hx (by rcases hd with z | z; exact absurd z q; exact z)
      exact ⟨e, (World.cell?_setCell_other (a := ⟨d, c, none⟩) (b := ⟨d, x, none⟩) _ _ (by simp <;> exact fun z => q z.symm)).trans e1, e2, e3, rowIs_kept e4 hsc (by simp; exact fun z => e3 z.symm)⟩
theorem RC.mono {W0 W : World} {K D d np ST : Nat} {E : Nat → Nat → Int} {dn dn' : Nat → Prop} (h : RC W0 W K D d np ST E dn) (hm : ∀ c, c < np → dn' c → dn c) : RC W0 W K D d np ST E dn' :=
  ⟨h.bel, h.p0, h.p1, h.cell, h.fr, fun c hc hd => h.row c hc (hm c hc hd), h.lo⟩
theorem RC.LLn {W0 W : World} {K D d np ST : Nat} {E : Nat → Nat → Int} {dn : Nat → Prop} (h : RC W0 W K D d np ST E dn) (hd : ∀ c, c < np → dn c) : LLn K W.heap.size W (.slice (some ⟨d, 0, none⟩) np np) np (fun _ => ST) E :=
  ⟨_, d, 0, np, rfl, fun _ => ⟨rfl, h.lo.2.1, h.lo.2.2.2⟩, fun c hc => by
    obtain ⟨e, e1, e2, e3, e4⟩ := h.row c hc (hd c hc)
    exact ⟨_, e, 0, ST, by rw [Nat.zero_add]; exact e1, fun _ => ⟨rfl, e2, e4.lt⟩, fun i hi => by rw [Nat.zero_add]; exact e4.cell hi⟩⟩
/-- the number that the composition's list holds at i -/
theorem cmp_num {G : Gl} {s t : Nat} {np np2 : Nat} {len len2 : Nat → Nat} {fp fp2 : Nat → Nat → Int} (hok : checkB G = true) (hcov : CovOK G (s : Int) np len fp) {H : Gl} (hH : H = covG G fp (fun k => invP (fp k) s) s) (hcov2 : CovOK H (t : Int) np2 len2 fp2)
    {a f i : Nat} (ha : a < G.n) (hf : f < 4) (hF : isF G (4 * a + f)) (hi : i < s * t) :
    (G.tet (4 * a + f) < 0 → cmpF G s fp t fp2 (fN G (4 * a + f)) i = i) ∧
    (¬ G.tet (4 * a + f) < 0 → ∃ l' u' : Nat, l' < s ∧ u' < t ∧ crF G fp (fun k => invP (fp k) s) a f (i % s) = l' ∧ crF H fp2 (fun k => invP (fp2 k) t) (i % s * G.n + a) f (i / s) = u' ∧ cmpF G s fp t fp2 (fN G (4 * a + f)) i = ((u' * s + l' : Nat) : Int)) := by
  have hsh : Sh G s fp (fun k => invP (fp k) s) := hcov.sh
  have hsz : s * G.n ≤ 1000 := hcov.small.2
  subst hH
  have hsh2 : Sh (covG G fp (fun k => invP (fp k) s) s) t fp2 (fun k => invP (fp2 k) t) := hcov2.sh
  have hE : cmpF G s fp t fp2 (fN G (4 * a + f)) i = cmp G fp (fun k => invP (fp k) s) s fp2 (fun k => invP (fp2 k) t) (4 * a + f) i := eF_at hok (by omega) hF i
  rw [hE]
  refine ⟨fun hn => by unfold cmp; rw [if_pos hn], fun hn => ?_⟩
  obtain ⟨q1, q2, q3⟩ := mix_split hi
  obtain ⟨l', u', a1, a2, a3, a4, a5, -⟩ := cmp_step hok hsh hsz hsh2 (show 4 * a + f < 4 * G.n by omega) hn q1 q2
  rw [q3] at a5
  rw [show (4 * a + f) / 4 = a by omega, show (4 * a + f) % 4 = f by omega] at a3 a4
  exact ⟨l', u', a1, a2, a3, a4, a5⟩
/-- the classes whose first face comes before j -/
def dnF (G : Gl) (j c : Nat) : Prop := ∃ m, m < j ∧ isF G m ∧ fN G m = c
theorem dnF_succ {G : Gl} {j c : Nat} (h : dnF G (j + 1) c) : (isF G j ∧ c = fN G j) ∨ dnF G j c := by
  obtain ⟨m, a, b, d⟩ := h
  by_cases e : m = j
  · subst e; exact .inl ⟨b, d.symm⟩
  · exact .inr ⟨m, by omega, b, d⟩
theorem dnF_all {G : Gl} (hok : checkB G = true) {c : Nat} (hc : c < nF G) : dnF G (4 * G.n) c := first_of hok hc
end Go.Proofs.Ytlckpgahijlmoaa
