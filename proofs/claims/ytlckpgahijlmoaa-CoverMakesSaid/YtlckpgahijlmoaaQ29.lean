/- skel's iterator around an edge: walk$1. -/
import Derived.Test.YtlckpgahijlmoaaQ28
/- The start of the ring under way. No condition. -/
namespace Go.Proofs.Ytlckpgahijlmoaa
open Go.RowKit Go.Shelf

def lastR (s : RS) (pre : List RS) : RS := pre.getLast?.getD s
theorem lastR_snoc (s x : RS) (pre : List RS) : lastR s (pre ++ [x]) = x := by simp [lastR]
structure LS (W0 : World) (S : Nat) (s : RS) (pre : List RS) (W : World) : Prop where
  g : W0.grownBy W (some S)
  c : C5 W S (lastR s pre)
  f : ∀ o, W.frozen? ⟨S, o, none⟩ = false
theorem LS.kept {W0 W W' : World} {S : Nat} {s : RS} {pre : List RS} (hS : S < W0.heap.size) (h : LS W0 S s pre W) {row : Option Nat} (hg : W.grownBy W' row) (hr : ∀ r, row = some r → W0.heap.size ≤ r) : LS W0 S s pre W' := by
  have hne : some S ≠ row := fun e => by have := hr S e.symm; omega
  refine ⟨⟨hg.os.trans h.g.os, hg.tape.trans h.g.tape, hg.output.trans h.g.output, Nat.le_trans h.g.size hg.size, fun k hk hk2 => ?_⟩, h.c.kept hg hne, fun o => (hg.frozen_far ⟨S, o, none⟩ (Nat.lt_of_lt_of_le hS h.g.size) hne).trans (h.f o)⟩
  exact (hg.block k (Nat.lt_of_lt_of_le hk h.g.size) (fun e => by have := hr k e.symm; omega)).trans (h.g.block k hk hk2)
theorem LS.abides {W0 : World} {S : Nat} {s : RS} (hS : S < W0.heap.size) : AbidesOk (NotOwn S) (fun _ => False) W0.heap.size (LS W0 S s) := fun _pre _W _W' _row h hg hr => h.kept hS hg (fun r e => (hr r e).1.resolve_right id)
theorem LS.own {W0 : World} {S : Nat} {s : RS} (hS : S < W0.heap.size) : OwnFrom W0.heap.size (LS W0 S s) := fun _pre _W _W' _row h hg hr => h.kept hS hg (fun r e => (hr r e).1)
theorem LS.set {W0 W : World} {S N : Nat} {s : RS} {pre : List RS} (hN : N ≤ S) (hS : S < W0.heap.size) (h : LS W0 S s pre W) (x : RS) :
    KeepsFrom W0.heap.size W (((((W.setCell ⟨S, 0, none⟩ (.int .i64 (x.1 : Int))).setCell ⟨S, 1, none⟩ (.int .i64 (x.2.1 : Int))).setCell ⟨S, 2, none⟩ (.int .i64 (x.2.2.1 : Int))).setCell ⟨S, 3, none⟩ (.int .i64 (x.2.2.2.1 : Int))).setCell ⟨S, 4, none⟩ (.int .i64 (x.2.2.2.2 : Int))) ∧
    Spare S N W (((((W.setCell ⟨S, 0, none⟩ (.int .i64 (x.1 : Int))).setCell ⟨S, 1, none⟩ (.int .i64 (x.2.1 : Int))).setCell ⟨S, 2, none⟩ (.int .i64 (x.2.2.1 : Int))).setCell ⟨S, 3, none⟩ (.int .i64 (x.2.2.2.1 : Int))).setCell ⟨S, 4, none⟩ (.int .i64 (x.2.2.2.2 : Int))) ∧
    LS W0 S s (pre ++ [x]) (((((W.setCell ⟨S, 0, none⟩ (.int .i64 (x.1 : Int))).setCell ⟨S, 1, none⟩ (.int .i64 (x.2.1 : Int))).setCell ⟨S, 2, none⟩ (.int .i64 (x.2.2.1 : Int))).setCell ⟨S, 3, none⟩ (.int .i64 (x.2.2.2.1 : Int))).setCell ⟨S, 4, none⟩ (.int .i64 (x.2.2.2.2 : Int))) := by
  have hg := five_grown (grownBy_refl W (some S)) (.int .i64 (x.1 : Int)) (.int .i64 (x.2.1 : Int)) (.int .i64 (x.2.2.1 : Int)) (.int .i64 (x.2.2.2.1 : Int)) (.int .i64 (x.2.2.2.2 : Int))
  have hc := five_ds h.c x
  have hN0 : N ≤ W.heap.size := by have := h.g.size; omega
  refine ⟨keeps_setCell (keeps_setCell (keeps_setCell (keeps_setCell (keeps_setCell (KeepsFrom.refl _ _) _ _) _ _) _ _) _ _) _ _, ⟨(Below.refl N W).grown hg hN0 (fun k e => by cases e; exact hN), fun i c t f hi hn => hg.block i (Array.getElem?_eq_some_iff.1 hi).1 (fun e => hn.1 (by cases e; rfl)), fun i _ hn => ⟨hn.1, fun v hv => ?_⟩, fun _ v hv => ?_⟩, ⟨grownBy_trans h.g hg, by rw [lastR_snoc]; exact hc, fun o => ?_⟩⟩
  · rw [hc.1] at hv; cases hv; simp [Value.ownBlock]
  · rw [hc.1] at hv; cases hv; simp [Value.ownBlock]
  · simp only [World.frozen?_setCell]; exact h.f o

theorem walk126_facts (W : World) (a : Option Addr) (n cap : Nat) (s : RS) (lb : Nat) {W' : World} (e : W' = ((W.alloc (.cells #[.slice a n cap] 24)).alloc (.cells (cellsR s) 160)).alloc (.cells #[.int .i64 (lb : Int)] 3)) :
    W.grownBy W' none ∧ W'.heap.size = W.heap.size + 3 ∧ C5 W' (W.heap.size + 1) s ∧ W'.cell? ⟨W.heap.size, 0, none⟩ = some (.slice a n cap) ∧ W'.cell? ⟨W.heap.size + 2, 0, none⟩ = some (.int .i64 (lb : Int)) := by
  subst e
  have g1 := World.grownBy_alloc W (.cells #[.slice a n cap] 24) none
  have g2 := World.grownBy_alloc (W.alloc (.cells #[.slice a n cap] 24)) (.cells (cellsR s) 160) none
  have f2 := C5.new (W.alloc (.cells #[.slice a n cap] 24)) s 160
  have g3 := World.grownBy_alloc ((W.alloc (.cells #[.slice a n cap] 24)).alloc (.cells (cellsR s) 160)) (.cells #[.int .i64 (lb : Int)] 3) none
  rw [World.size_alloc] at f2
  exact ⟨grownBy_trans g1 (grownBy_trans g2 g3), by simp, f2.kept g3 (by simp), g3.cell (g2.cell (by simp [go_sem]) (by simp)) (by simp), by simp [go_sem]⟩
/-- the start's ring ends -/
theorem start_ends {G : Gl} (hok : checkB G = true) {s : RS} (hs : Rok G.n s) {k m : Nat} (hall : ∀ i, i < k → itr G 3 s i ≠ none) (hm : itr G 2 s m = none) :
    Rok G.n (lastR s (pth G 3 s k)) ∧ itr G 2 (lastR s (pth G 3 s k)) (k + m) = none := by
  cases k with
  | zero =>
    have e : lastR s (pth G 3 s 0) = s := rfl
    rw [e]
    exact ⟨hs, itr_none hm (by omega)⟩
  | succ k =>
    cases e : itr G 3 s k with
    | none => exact absurd e (hall k (by omega))
    | some u =>
      rw [pth_succ e, lastR_snoc]
      have hb := itr_back hok (.inr ⟨rfl, rfl⟩) hs e
      refine ⟨itr_ok hok hs e, ?_⟩
      have : itr G 2 u (k + m) = none := by rw [itr_add, hb]; exact hm
      exact itr_none this (by omega)
end Go.Proofs.Ytlckpgahijlmoaa
namespace Go.Proofs.Ytlckpgahijlmoaa
open Go.RowKit Go.Shelf

set_option maxRecDepth 100000 in
set_option maxHeartbeats 4000000 in
theorem ring_iter {G : Gl} (hok : checkB G = true) {lb mb : Nat} (hlm : (lb = 2 ∧ mb = 3) ∨ (lb = 3 ∧ mb = 2)) {s : RS} (hs : Rok G.n s) (n : Nat) (hn : 1 ≤ n) (v : Value) (w : World) (N Bf Bg Bl R : Nat) (hN : N ≤ w.heap.size) (hG : GlAt N w v G)
    (hf : C5 w Bf s) (hg : w.cell? ⟨Bg, 0, none⟩ = some v) (hl : w.cell? ⟨Bl, 0, none⟩ = some (.int .i64 (lb : Int))) (hng : NotOwn R w Bg) (hnl : NotOwn R w Bl) (hR : R < w.heap.size) (hfr : FrR R w)
    (M : Nat) (lim : List RS → Prop) (hM : ∀ k, (∀ i, i < k → itr G lb s i ≠ none) → lim (pth G lb s k) → k ≤ M) :
    SeqLim n Try.prog 131 #[.pointer (some ⟨Bf, 0, none⟩), .pointer (some ⟨Bg, 0, none⟩), .pointer (some ⟨Bl, 0, none⟩)] encR (NotOwn R) (fun _ => False) (Spare R N) lim
      (fun xs => ∃ k, (∀ i, i < k → itr G lb s i ≠ none) ∧ itr G lb s k = none ∧ xs = pth G lb s k) (fun pre => ∃ k, (∀ i, i < k → itr G lb s i ≠ none) ∧ pre = pth G lb s k) M w := by
  intro l J Jx W hW hJ hJx hlim hY h0
  refine callsIn_wide.2 ?_
  show Calls Try.prog 131 #[.func (.yield l) #[] #[], .pointer (some ⟨Bf, 0, none⟩), .pointer (some ⟨Bg, 0, none⟩), .pointer (some ⟨Bl, 0, none⟩)] W _
  have hgW := below_grown hW (Nat.le_refl _) none
  have hfW := hf.kept hgW (by simp)
  have hgc := hgW.cell hg (by simp)
  have hlc := hgW.cell hl (by simp)
  have hngW := hng.kept hgW hR (by simp)
  have hnlW := hnl.kept hgW hR (by simp)
  have hfrW := hfr.kept hgW hR (by simp)
  have hRW : R < W.heap.size := Nat.lt_of_lt_of_le hR hW.size
  have hGW := hG.below (hW.mono hN)
  have hNW : N ≤ W.heap.size := Nat.le_trans hN hW.size
  have HW := Lib.hid (And.intro hgc (And.intro hlc (And.intro hngW (And.intro hnlW (And.intro hfrW hGW)))))
  have HF := Lib.hid hfW
  have HS := Lib.hid (And.intro hok (And.intro hlm (And.intro hs hM)))
  have HJ := Lib.hid (And.intro hJ (And.intro hJx (And.intro hlim (And.intro hY h0))))
  obtain ⟨c0, c1, c2, c3, c4⟩ := hfW
  clear hok hlm hs hM hJ hJx hlim hY h0 hgc hlc hngW hnlW hfrW hGW hgW hf hg hl hng hnl hfr hG hW
  go_enter Try.func131, Try.ntmps131
  go_wp2
  clear c0 c1 c2 c3 c4
  refine wp_named fun W1 hW1 => ?_
  have h1 : C5 W1 W.heap.size s ∧ W.grownBy W1 none ∧ W.heap.size < W1.heap.size ∧ ∀ o, W1.frozen? ⟨W.heap.size, o, none⟩ = false := by
    rw [hW1]; exact ⟨C5.new W s 160, World.grownBy_alloc W _ none, by simp, fun o => by simp [go_sem]⟩
  obtain ⟨h1c, h1g, h1s, h1f⟩ := h1
  have HFZ := Lib.hid h1f; clear h1f
  clear hW1
  have H1 := Lib.hid (And.intro h1c h1g); clear h1c h1g
  go_loopg [5] (M + 1) (fun g p wr => ∃ (k : Nat) (u : RS) (b : Nat), g + k = M + 1 ∧ p = .pointer (some ⟨b, 0, none⟩) ∧ W.heap.size ≤ b ∧ (∀ i, i < k → itr G lb s i ≠ none) ∧ itr G lb s k = some u ∧ C5 wr b u ∧ J (pth G lb s k) wr ∧ Below N W wr ∧ NotOwn R wr b ∧ NotOwn R wr Bg ∧ NotOwn R wr Bl ∧ FrR R wr ∧ wr.cell? ⟨Bg, 0, none⟩ = some v ∧ wr.cell? ⟨Bl, 0, none⟩ = some (.int .i64 (lb : Int)) ∧ (∀ o, wr.frozen? ⟨b, o, none⟩ = false))
  case atStart =>
    refine ⟨0, s, W.heap.size, by omega, rfl, Nat.le_refl _, by omega, rfl, H1.out.1, ?_, (Below.refl N W).grown H1.out.2 hNW (fun k hk => by cases hk), ?_, HW.out.2.2.1.kept H1.out.2 hRW (by simp), HW.out.2.2.2.1.kept H1.out.2 hRW (by simp), HW.out.2.2.2.2.1.kept H1.out.2 hRW (by simp), H1.out.2.cell HW.out.1 (by simp), H1.out.2.cell HW.out.2.1 (by simp), HFZ.out⟩
    · exact HJ.out.1 _ _ _ _ HJ.out.2.2.2.2 H1.out.2 (fun r e => by cases e)
    · exact (NotOwn.new hRW HW.out.2.2.2.2.1).kept H1.out.2 hRW (by simp)
  case round =>
    clear H1 h1s HFZ
    obtain ⟨k, u, b, hgk, rfl, hbW, hall, hu, hc, hJk, hB, nb, ng, nl, hfr, gc, lc, hfz⟩ := hrel
    have hkM : k ≤ M := HS.out.2.2.2 k hall (HJ.out.2.2.1 _ _ hJk)
    obtain ⟨fn, tmps, assign, body, hy, hRd⟩ := HJ.out.2.2.2.1 (pth G lb s k) u wr hJk (by rw [pth_len hall]; exact hkM)
    have hok := itr_ok HS.out.1 HS.out.2.2.1 hu
    have HK := Lib.hid (And.intro hall (And.intro hu (And.intro hc (And.intro hJk (And.intro hB (And.intro nb (And.intro ng (And.intro nl (And.intro hfr (And.intro gc (And.intro lc (And.intro hfz hok))))))))))))
    obtain ⟨c0, c1, c2, c3, c4⟩ := hc
    have hbl := lt_of_cell c0
    simp only at hbl
    unfold encR at hy
    clear hall hu hJk hB nb ng nl hfr gc lc hfz hok
    refine (wpIn_wide (n := n)).1 ?_
    gi_wp2
    refine hRd.mono ?_
    rintro e W3 (⟨rfl, hJ3, hs3⟩ | ⟨rfl, hJx3⟩)
    · clear hy hRd c0 c1 c2 c3 c4
      obtain ⟨hall, hu, hc, hJk, hB, nb, ng, nl, hfr, gc, lc, hfz, hok⟩ := HK.out
      have hc3 := hc.spare hs3 nb
      have nb3 := hs3.own b hbl nb
      have ng3 := hs3.own Bg (lt_of_cell gc) ng
      have nl3 := hs3.own Bl (lt_of_cell lc) nl
      have fr3 := hs3.fr hfr
      have gc3 := hs3.cell gc ng
      have lc3 := hs3.cell lc nl
      have hB3 := hB.trans hs3.below
      have fz3 : ∀ o, W3.frozen? ⟨b, o, none⟩ = false := fun o => by
        obtain ⟨c, t, f, e⟩ := cell_block hc.1
        exact (World.frozen?_of_block (w := wr) (a := ⟨b, o, none⟩) (hs3.same b c t f e nb)).trans (hfz o)
      have hG3 := HW.out.2.2.2.2.2.below hB3
      have hRW3 : R < W3.heap.size := Nat.lt_of_lt_of_le hRW hB3.size
      have hJ4 : J (pth G lb s (k + 1)) W3 := by rw [pth_succ hu]; exact hJ3
      have hall4 : ∀ i, i < k + 1 → itr G lb s i ≠ none := fun i hi => by
        by_cases e : i = k
        · subst e; rw [hu]; simp
        · exact hall i (by omega)
      have hb3 : b < W3.heap.size := hc3.lt
      have hlb : lb < 4 := by have := HS.out.2.1; omega
      have hr4 := rp_lt hok lb
      have hcl : W3.cell? ⟨b, 1 + lb, none⟩ = some (.int .i64 (rp u lb : Int)) := by
        rcases HS.out.2.1 with ⟨e, _⟩ | ⟨e, _⟩
        · rw [e]; exact hc3.2.2.2.1
        · rw [e]; exact hc3.2.2.2.2
      have ht := hok.t
      have hst : stp G lb u = itr G lb s (k + 1) := by simp only [itr, hu, Option.bind_some]
      obtain ⟨x0, x1, x2, x3, x4⟩ := hc3
      obtain ⟨ga, bb, off, cap, rfl, hga, hcc⟩ := hG3
      obtain ⟨rfl, hbN⟩ := hga (by omega)
      obtain ⟨p, hp⟩ := hcc (4 * u.1 + rp u lb) (by omega)
      have p0 := hp 0 (by omega)
      have p1 := hp 1 (by omega)
      have p2 := hp 2 (by omega)
      have p3 := hp 3 (by omega)
      rw [show off + 5 * (4 * u.1 + rp u lb) = off + u.1 * 20 + rp u lb * 5 by omega] at p p0 p1 p2 p3
      have HP := Lib.hid (And.intro hst (And.intro hok (And.intro hJ4 (And.intro hall4 (And.intro hB3 (And.intro nb3 (And.intro ng3 (And.intro nl3 fr3))))))))
      clear hs3 hJ3 hall hu hc hJk hB nb ng nl hfr gc lc hfz hok nb3 ng3 nl3 fr3 hB3 hJ4 hall4 hcc hga hp hst HK
      obtain ⟨K4, hK4⟩ : ∃ x, x = 4 * u.1 + rp u lb := ⟨_, rfl⟩
      rw [← hK4] at p p0 p1 p2 p3
      have HK4 := Lib.hid hK4; clear hK4
      obtain ⟨t, ut⟩ : ∃ x, x = u.1 := ⟨_, rfl⟩
      obtain ⟨fi, uf⟩ : ∃ x, x = rp u lb := ⟨_, rfl⟩
      rw [← ut] at x0 p p0 p1 p2 p3 ht
      rw [← uf] at hcl p p0 p1 p2 p3 hr4
      rw [← ut]
      have HU := Lib.hid (And.intro ut uf); clear ut uf
      replace p0 : W3.cell? ⟨bb, off + t * 20 + fi * 5 + 1, none⟩ = some (.int .i64 (G.pm K4 0)) := p0
      replace p1 : W3.cell? ⟨bb, off + t * 20 + fi * 5 + 2, none⟩ = some (.int .i64 (G.pm K4 1)) := p1
      replace p2 : W3.cell? ⟨bb, off + t * 20 + fi * 5 + 3, none⟩ = some (.int .i64 (G.pm K4 2)) := p2
      replace p3 : W3.cell? ⟨bb, off + t * 20 + fi * 5 + 4, none⟩ = some (.int .i64 (G.pm K4 3)) := p3
      have t0 : 0 ≤ (t : Int) := by omega
      have tn : (t : Int) < (G.n : Int) := by omega
      have fi0 : 0 ≤ (fi : Int) := by omega
      have fi4 : (fi : Int) < 4 := by omega
      have lb0 : 0 ≤ (lb : Int) := by omega
      have lb4 : (lb : Int) < 4 := by omega
      gi_wp2
      refine wpIn_wide.2 ?_
      have gc3a := cell_al gc3
      have lc3a := cell_al lc3
      have x0a := cell_al x0
      have hcla := cell_al hcl
      have pa := cell_al p
      have p0a := cell_al p0
      have p1a := cell_al p1
      have p2a := cell_al p2
      have p3a := cell_al p3
      go_region
      refine exit_named fun W4 hW4 => ?_
      have h4 : W3.grownBy W4 none ∧ W4.cell? ⟨W3.heap.size, 0, none⟩ = some (.int .i64 (G.tet K4)) ∧ W4.cell? ⟨W3.heap.size, 1, none⟩ = some (.int .i64 (G.pm K4 0)) ∧ W4.cell? ⟨W3.heap.size, 2, none⟩ = some (.int .i64 (G.pm K4 1)) ∧ W4.cell? ⟨W3.heap.size, 3, none⟩ = some (.int .i64 (G.pm K4 2)) ∧ W4.cell? ⟨W3.heap.size, 4, none⟩ = some (.int .i64 (G.pm K4 3)) := by
        rw [hW4]
        exact ⟨grownBy_trans (World.grownBy_alloc W3 _ none) (grownBy_drew _ _), by simp [go_sem], by simp [go_sem], by simp [go_sem], by simp [go_sem], by simp [go_sem]⟩
      obtain ⟨g4, q0, q1, q2, q3, q4⟩ := h4
      have hs4 := g4.size
      clear hW4 gc3a lc3a x0a hcla pa p0a p1a p2a p3a p p0 p1 p2 p3 hcl
      have y0 := g4.cell x0 (by simp)
      have y1 := g4.cell x1 (by simp)
      have y2 := g4.cell x2 (by simp)
      have y3 := g4.cell x3 (by simp)
      have y4 := g4.cell x4 (by simp)
      have yf : ∀ o, W4.frozen? ⟨b, o, none⟩ = false := fun o => (g4.frozen_far ⟨b, o, none⟩ hb3 (by simp)).trans (fz3 o)
      have HX := Lib.hid (And.intro g4 (And.intro gc3 (And.intro lc3 (And.intro x0 (And.intro x1 (And.intro x2 (And.intro x3 x4)))))))
      clear x0 x1 x2 x3 x4 gc3 lc3 fz3 g4
      have hb4 : b < W4.heap.size := lt_of_cell y0
      have hk4 : K4 < 4 * G.n := by
        have := HK4.out; have := HU.out; omega
      by_cases hT : G.tet K4 < 0
      · gi_wp2
        obtain ⟨hst, hok, hJ4, hall4, _⟩ := HP.out
        refine bodyPost_ret (results_none rfl _ _ _) rfl ?_
        refine ⟨⟨_, rfl⟩, .inl ⟨_, ⟨k + 1, hall4, ?_, rfl⟩, HJ.out.1 _ _ _ _ hJ4 HX.out.1 (fun r e => by cases e)⟩⟩
        rw [← hst, stp, ← HK4.out, if_pos hT]
      · have hFc := ok_face HS.out.1 hk4 hT
        have hV := ok_valid HS.out.1 hk4 hT
        have hD := HP.out.2.1.d
        have hL := HP.out.2.1.l
        have L1 := fun w => comp_first u.2.1 u.2.2.1 u.2.2.2.1 u.2.2.2.2 hL.1 hL.2.1 hL.2.2.1 hL.2.2.2 hD w
        have L2 := fun w => comp_second (G.pm K4) (G.P K4) hV (fun i hi => (hFc.2.2 i hi).1) u.2.1 u.2.2.1 u.2.2.2.1 u.2.2.2.2 hL.1 hL.2.1 hL.2.2.1 hL.2.2.2 hD w
        have hTT := hFc.1
        have HT := Lib.hid hT
        have L12 := Lib.hid (And.intro L1 (And.intro L2 hTT))
        clear hFc hV hD hL L1 L2 hTT
        gi_wp2
        refine wpIn_wide.2 ?_
        apply wp_meet (R := fun W7 => C5 W7 b (G.T K4, G.P K4 u.2.1, G.P K4 u.2.2.1, G.P K4 u.2.2.2.2, G.P K4 u.2.2.2.1) ∧ W4.grownBy W7 (some b))
        case h1 =>
          have hcb : W3.heap.size ≠ b := by omega
          have q0d : W4.drew.cell? ⟨W3.heap.size, 0, none⟩ = some (.int .i64 (G.tet K4)) := q0
          have q1d : W4.drew.cell? ⟨W3.heap.size, 1, none⟩ = some (.int .i64 (G.pm K4 0)) := q1
          have q2d : W4.drew.cell? ⟨W3.heap.size, 2, none⟩ = some (.int .i64 (G.pm K4 1)) := q2
          have q3d : W4.drew.cell? ⟨W3.heap.size, 3, none⟩ = some (.int .i64 (G.pm K4 2)) := q3
          have q4d : W4.drew.cell? ⟨W3.heap.size, 4, none⟩ = some (.int .i64 (G.pm K4 3)) := q4
          go_region_with
            (first
              | (go_at_call 132; (with_reducible refine (L12.out.1 _).mono ?_); rintro e W5 ⟨rfl, hb5⟩; have g5 := Lib.hid (below_grown hb5 (Nat.le_refl _) none); have q05 := g5.out.cell q0 (by simp); have q15 := g5.out.cell q1 (by simp); have q25 := g5.out.cell q2 (by simp); have q35 := g5.out.cell q3 (by simp); have q45 := g5.out.cell q4 (by simp); clear hb5)
              | (go_at_call 132; (with_reducible refine (L12.out.2.1 _).mono ?_); rintro e W6 ⟨rfl, hb6⟩; have g6 := Lib.hid (below_grown hb6 (Nat.le_refl _) none); have q06 := g6.out.cell q05 (by simp); have q16 := g6.out.cell q15 (by simp); have q26 := g6.out.cell q25 (by simp); have q36 := g6.out.cell q35 (by simp); have q46 := g6.out.cell q45 (by simp); have y06 := g6.out.cell (g5.out.cell y0 (by simp)) (by simp); have y16 := g6.out.cell (g5.out.cell y1 (by simp)) (by simp); have y26 := g6.out.cell (g5.out.cell y2 (by simp)) (by simp); have y36 := g6.out.cell (g5.out.cell y3 (by simp)) (by simp); have y46 := g6.out.cell (g5.out.cell y4 (by simp)) (by simp); have yf6 : ∀ o, W6.frozen? ⟨b, o, none⟩ = false := (fun o => (g6.out.frozen_far ⟨b, o, none⟩ (show b < W5.heap.size from lt_of_cell (a := ⟨b, 0, none⟩) (g5.out.cell y0 (by simp))) (by simp)).trans ((g5.out.frozen_far ⟨b, o, none⟩ (show b < W4.drew.heap.size from hb4) (by simp)).trans (yf o))); clear hb6))
          all_goals
            rw [L12.out.2.2]
            have hc6 : C5 W6 b u := ⟨HU.out.1 ▸ y06, y16, y26, y36, y46⟩
            exact ⟨rfl, five_ds hc6 (G.T K4, G.P K4 u.2.1, G.P K4 u.2.2.1, G.P K4 u.2.2.2.2, G.P K4 u.2.2.2.1), five_grown (grown_row (grownBy_trans (grownBy_trans (grownBy_drew _ _) g5.out) g6.out) _) _ _ _ _ _⟩
        case h2 =>
          rintro W7 ⟨hc7, g47⟩
          obtain ⟨hst, hok, hJ4, hall4, hB3, nb3, ng3, nl3, fr3⟩ := HP.out
          have g37 : W3.grownBy W7 (some b) := grownBy_trans (grown_row HX.out.1 _) g47
          have hst2 : itr G lb s (k + 1) = some (G.T K4, G.P K4 u.2.1, G.P K4 u.2.2.1, G.P K4 u.2.2.2.2, G.P K4 u.2.2.2.1) := by rw [← hst, stp, ← HK4.out, if_neg (by have := HT.out; omega)]
          obtain ⟨d0, d1, d2, d3, d4⟩ := hc7
          simp only at d0 d1 d2 d3 d4
          have H7 := Lib.hid (And.intro g37 (And.intro hst2 (And.intro hJ4 (And.intro hall4 (And.intro hB3 (And.intro nb3 (And.intro ng3 (And.intro nl3 fr3))))))))
          clear g37 hst2 hJ4 hall4 hB3 nb3 ng3 nl3 fr3 hst hok
          gi_wp2
          go_roundg (gk - 1)
          case measure => omega
          case rel =>
            obtain ⟨g37, hst2, hJ4, hall4, hB3, nb3, ng3, nl3, fr3⟩ := H7.out
            have g8 := World.grownBy_alloc W7 (.cells #[.int .i64 ((G.T K4 : Nat) : Int), .int .i64 ((G.P K4 u.2.1 : Nat) : Int), .int .i64 ((G.P K4 u.2.2.1 : Nat) : Int), .int .i64 ((G.P K4 u.2.2.2.2 : Nat) : Int), .int .i64 ((G.P K4 u.2.2.2.1 : Nat) : Int)] 160) none
            have hRW7 : R < W7.heap.size := Nat.lt_of_lt_of_le hRW3 g37.size
            have nbR : (some b : Option Nat) ≠ some R := fun e => nb3.1 (by simpa using e)
            have fr7 : FrR R W7 := fr3.kept g37 hRW3 nbR
            have g38 := grownBy_trans g37 (grown_row g8 (some b))
            have hBgb : Bg ≠ b := by have := lt_of_cell HW.out.1; simp only at this; omega
            have hBlb : Bl ≠ b := by have := lt_of_cell HW.out.2.1; simp only at this; omega
            have hbN : N ≤ b := by omega
            have hN3 : N ≤ W3.heap.size := Nat.le_trans hNW hB3.size
            have hW7 : W.heap.size ≤ W7.heap.size := Nat.le_trans hB3.size g37.size
            exact ⟨k + 1, (G.T K4, G.P K4 u.2.1, G.P K4 u.2.2.1, G.P K4 u.2.2.2.2, G.P K4 u.2.2.2.1), W7.heap.size, by omega, rfl, hW7, hall4, hst2, C5.new W7 (G.T K4, G.P K4 u.2.1, G.P K4 u.2.2.1, G.P K4 u.2.2.2.2, G.P K4 u.2.2.2.1) 160,
              HJ.out.1 _ _ _ _ hJ4 g38 (fun r e => by cases e; exact ⟨.inl hbW, nb3⟩), hB3.grown g38 hN3 (fun r e => by cases e; exact hbN), (NotOwn.new hRW7 fr7).kept g8 hRW7 (by simp), ng3.kept g38 hRW3 nbR, nl3.kept g38 hRW3 nbR, fr3.kept g38 hRW3 nbR,
              g38.cell HX.out.2.1 (by simpa using hBgb), g38.cell HX.out.2.2.1 (by simpa using hBlb), fun o => by simp [go_sem]⟩
    · have H3 := Lib.hid hJx3; clear hJx3 hy hRd c0 c1 c2 c3 c4
      gi_wp2
      go_end0
      refine ⟨⟨_, rfl⟩, .inr ⟨_, ⟨k + 1, fun i hi => ?_, rfl⟩, by rw [pth_succ HK.out.2.1]; exact H3.out⟩⟩
      by_cases e : i = k
      · subst e; rw [HK.out.2.1]; simp
      · exact HK.out.1 i (by omega)
end Go.Proofs.Ytlckpgahijlmoaa
