/- sane returns true, and turns nothing. -/
import Derived.Test.YtlckpgahijlmoaaQ41
import Derived.Test.YtlckpgahijlmoaaQ40
/- The gluing that sane reads, its classes and rings: the one covering is one, the other is none. -/
namespace Go.Proofs.Ytlckpgahijlmoaa
open Go.RowKit
/-- the two coverings -/
def q1 : Nat → Nat → Int := fun _ i => if i = 0 then 1 else 0
def q2 : Nat → Nat → Int := fun k i => if k = 0 then (if i = 0 then 1 else 0) else i
theorem nF_GS : nF GS = 2 := by decide +kernel
theorem nE_GS : nE GS = 2 := by decide +kernel
theorem rev_GS : ∀ i, i < nE GS → revK GS (6 * GS.n) i = false := fun i hi => by
  have h : ∀ i : Fin 2, revK GS (6 * GS.n) i.val = false := by decide +kernel
  rw [nE_GS] at hi
  exact h ⟨i, hi⟩
theorem eN_GS : ∀ q : Fin 6, 1 < q.val → ∃ q' : Fin 6, q'.val < q.val ∧ eN GS q'.val = eN GS q.val := by decide +kernel
theorem first_GS {q : Nat} (hq : q < 6) (h : firstE GS q) : q = 0 ∨ q = 1 := by
  rcases Nat.lt_or_ge 1 q with h1 | h1
  · obtain ⟨q', a, b⟩ := eN_GS ⟨q, hq⟩ h1
    exact absurd b (h q'.val a)
  · omega
theorem ringOK_of {G : Gl} {f g : Nat → Nat → Int} {sh : Nat} {s : RS} {m0 : Nat} (h0 : 0 < m0) (h1 : itr G 2 s m0 = some s) (h2 : ∀ i : Fin m0, 0 < i.val → itr G 2 s i.val ≠ some s) (h3 : ∀ i : Fin sh, shA G f g (pth G 2 s m0) i.val m0 = i.val) : ringOK G f g sh s := fun m a b c i hi => by
  obtain rfl := ring_uniq h0 a h1 (fun i x y => h2 ⟨i, y⟩ x) b c
  exact h3 ⟨i, hi⟩
theorem cov1 : CovOK GS 2 2 (fun _ => 2) q1 where
  lo := by decide
  hi := by decide
  tets := by decide +kernel
  num := nF_GS.symm
  perms := fun k hk => by
    have h : ∀ k : Fin 2, permB 2 (q1 k.val) 2 = true := by decide +kernel
    exact h ⟨k, hk⟩
  free := fun t f _ h => absurd h (by show ¬ (0 : Int) < 0; decide)
  rings := fun q hq hf => by
    rcases first_GS hq hf with rfl | rfl
    · exact ringOK_of (m0 := 4) (by decide) (by decide +kernel) (by decide +kernel) (by decide +kernel)
    · exact ringOK_of (m0 := 2) (by decide) (by decide +kernel) (by decide +kernel) (by decide +kernel)
theorem cov2 : ¬ CovOK GS 2 2 (fun _ => 2) q2 := fun h => by
  have hf : firstE GS 1 := by
    have h : ∀ q' : Fin 1, eN GS q'.val ≠ eN GS 1 := by decide +kernel
    exact fun q' hq => h ⟨q', hq⟩
  have hr := h.rings 1 (by decide) hf 2 (by decide) (by decide +kernel) (fun i a b => by
    have h : ∀ i : Fin 2, 0 < i.val → itr GS 2 (frS (1 / 6) (1 % 6)) i.val ≠ some (frS (1 / 6) (1 % 6)) := by decide +kernel
    exact h ⟨i, b⟩ a) 0 (by decide)
  exact absurd hr (by decide +kernel)
theorem err1 {c : Int} (h : AskedErr GS 2 2 (fun _ => 2) q1 c) : c = 0 := by
  rcases h with ⟨h, _⟩ | ⟨_, ⟨i, h1, h2⟩, _⟩ | ⟨_, _, h, _⟩ | ⟨_, _, _, h⟩
  · rw [GS_ok] at h; cases h
  · rw [rev_GS i h1] at h2; cases h2
  · exact absurd cov1 h
  · exact h
theorem err2 {c : Int} (h : AskedErr GS 2 2 (fun _ => 2) q2 c) : c = 110 := by
  rcases h with ⟨h, _⟩ | ⟨_, ⟨i, h1, h2⟩, _⟩ | ⟨_, _, _, h⟩ | ⟨_, _, h, _⟩
  · rw [GS_ok] at h; cases h
  · rw [rev_GS i h1] at h2; cases h2
  · exact h
  · exact absurd h cov2
end Go.Proofs.Ytlckpgahijlmoaa
namespace Go.Proofs.Ytlckpgahijlmoaa
open Go.RowKit Go.Shelf

theorem GS_form {B : Nat} {W : World} {u : Value} (h : GlAt B W u GS) : ∃ ga gc, u = .slice ga 1 gc := by
  obtain ⟨a, _, _, cap, e, _⟩ := h
  exact ⟨a, cap, e⟩
theorem two_rows (W : World) (D : Nat) (hD : D = W.heap.size) (q : Nat → Nat → Int) (W' : World) (e : W' = ((W.alloc (.cells #[.int .i64 (q 0 0), .int .i64 (q 0 1)] 3)).alloc (.cells #[.int .i64 (q 1 0), .int .i64 (q 1 1)] 3)).alloc (.cells #[.slice (some ⟨D, 0, none⟩) 2 2, .slice (some ⟨D + 1, 0, none⟩) 2 2] 35)) :
    LLs W'.heap.size W' (.slice (some ⟨D + 1 + 1, 0, none⟩) 2 2) 2 (fun _ => 2) q ∧ W.grownBy W' none := by
  have g1 := World.grownBy_alloc W (.cells #[.int .i64 (q 0 0), .int .i64 (q 0 1)] 3) none
  have g2 := World.grownBy_alloc (W.alloc (.cells #[.int .i64 (q 0 0), .int .i64 (q 0 1)] 3)) (.cells #[.int .i64 (q 1 0), .int .i64 (q 1 1)] 3) none
  have g3 := World.grownBy_alloc ((W.alloc (.cells #[.int .i64 (q 0 0), .int .i64 (q 0 1)] 3)).alloc (.cells #[.int .i64 (q 1 0), .int .i64 (q 1 1)] 3)) (.cells #[.slice (some ⟨D, 0, none⟩) 2 2, .slice (some ⟨D + 1, 0, none⟩) 2 2] 35) none
  rw [← e] at g3
  have hs : W'.heap.size = D + 3 := by rw [e]; simp; omega
  refine ⟨⟨_, D + 1 + 1, 0, 2, rfl, fun _ => ⟨rfl, by omega⟩, fun k hk => ?_⟩, grownBy_trans g1 (grownBy_trans g2 g3)⟩
  have hk' : k = 0 ∨ k = 1 := by omega
  subst hD
  rcases hk' with rfl | rfl
  · refine ⟨_, by rw [e]; simp [go_sem], _, W.heap.size, 0, 2, rfl, fun _ => ⟨rfl, by omega⟩, fun i hi => ?_⟩
    have hi' : i = 0 ∨ i = 1 := by have hi2 : i < 2 := hi; omega
    rcases hi' with rfl | rfl <;> rw [e] <;> simp [go_sem]
  · refine ⟨_, by rw [e]; simp [go_sem], _, W.heap.size + 1, 0, 2, rfl, fun _ => ⟨rfl, by omega⟩, fun i hi => ?_⟩
    have hi' : i = 0 ∨ i = 1 := by have hi2 : i < 2 := hi; omega
    rcases hi' with rfl | rfl <;> rw [e] <;> simp [go_sem]
set_option maxRecDepth 100000 in
set_option maxHeartbeats 2000000 in
theorem sane_walk (w : World) : Calls Try.prog 9 #[] w fun e w' => e = .returned (.bool true) ∧ Below w.heap.size w w' := by
  have hp := fun W => Parse_walk W
  unfold txt at hp
  have HP := Lib.hid hp
  clear hp
  generalize hN : w.heap.size = N at *
  have HNN := Lib.hid hN
  go_enter Try.func9, Try.ntmps9
  go_wp2_with (first
    | (go_at_call 40; (with_reducible refine (HP.out _).mono ?_); rintro e W1 ⟨u, rfl, hgl, hb1⟩; obtain ⟨ga, gc, rfl⟩ := GS_form hgl; have H1 := Lib.hid (And.intro hgl hb1); clear hgl hb1))
  have hb1 : Below N w W1 := hN ▸ H1.out.2
  have hNs : N ≤ W1.heap.size := by have := hb1.size; omega
  have hgl1 := H1.out.1
  clear hN
  obtain ⟨D, hD⟩ : ∃ D, D = W1.heap.size := ⟨_, rfl⟩
  rw [← hD]
  refine wp_world_named fun W2 hW2 => ?_
  obtain ⟨hL2, hg2⟩ := two_rows (W1.alloc (.cells #[.slice ga 1 gc] 24)) (D + 1) (by simp [hD]) q1 W2 hW2
  have hal := World.grownBy_alloc W1 (.cells #[.slice ga 1 gc] 24) none
  have hg12 := grownBy_trans hal hg2
  have y1 : W2.cell? ⟨D, 0, none⟩ = some (.slice ga 1 gc) := hg2.cell (World.cell?_alloc_at _ _ _ _ hD) (by simp)
  have hb2 : Below N w W2 := hb1.grown hg12 hNs (fun k e => by cases e)
  have hb12 : Below W1.heap.size W1 W2 := (Below.refl _ _).grown hg12 (Nat.le_refl _) (fun k e => by cases e)
  have hgl2 := (hgl1.below hb12).mono hb12.size
  clear hW2 hg2 hal hg12
  refine (coverMake_walk GS (.slice ga 1 gc) 2 (.slice (some ⟨D + 1 + 1 + 1, 0, none⟩) 2 2) 2 (fun _ => 2) q1 W2 hgl2 (by decide +kernel) hL2 (fun _ _ => by omega) (by omega)).mono ?_
  rintro e W3 ⟨hb3, c, u, rfl, herr, hu⟩
  obtain rfl := err1 herr
  rcases hu with ⟨h, _⟩ | ⟨_, _, hgl3⟩
  · exact absurd rfl h
  obtain ⟨ga2, gc2, rfl⟩ : ∃ a c, u = .slice a 2 c := by
    obtain ⟨a, _, _, cap, e, _⟩ := hgl3
    exact ⟨a, cap, e⟩
  have y3 := (hb3.cell (p := ⟨D, 0, none⟩) (lt_of_cell y1)).trans y1
  have hNs2 : N ≤ W2.heap.size := by have := hb2.size; have := HNN.out; omega
  have hb3' := hb2.trans (hb3.mono hNs2)
  have hgl3' := (hgl2.below hb3).mono hb3.size
  have y3a := cell_al y3
  have H3 := Lib.hid (And.intro hb3' hgl3')
  clear hD hb3 hb2 hb12 hgl2 hgl3 hgl1 hb1 hL2 y1 hb3' hgl3' herr
  go_wp2_with fail
  obtain ⟨E, hE⟩ : ∃ E, E = W3.heap.size := ⟨_, rfl⟩
  rw [← hE]
  refine wp_world_named fun W4 hW4 => ?_
  obtain ⟨hL4, hg4⟩ := two_rows (W3.alloc (.cells #[.slice ga2 2 gc2] 24)) (E + 1) (by simp [hE]) q2 W4 hW4
  have hal3 := World.grownBy_alloc W3 (.cells #[.slice ga2 2 gc2] 24) none
  have hg34 := grownBy_trans hal3 hg4
  have hNs3 := H3.out.1.size
  have hb4 : Below N w W4 := H3.out.1.grown hg34 (by have := HNN.out; omega) (fun k e => by cases e)
  have hb34 : Below W3.heap.size W3 W4 := (Below.refl _ _).grown hg34 (Nat.le_refl _) (fun k e => by cases e)
  have hgl4 := (H3.out.2.below hb34).mono hb34.size
  refine (coverCheck_walk GS (.slice ga 1 gc) 2 (.slice (some ⟨E + 1 + 1 + 1, 0, none⟩) 2 2) 2 (fun _ => 2) q2 W4 hgl4 (by decide +kernel) hL4 (fun _ _ => by omega) (by omega)).mono ?_
  rintro e W5 ⟨hb5, c, rfl, herr⟩
  obtain rfl := err2 herr
  have H5 := Lib.hid (hb4.trans (hb5.mono (by have := hb4.size; have := HNN.out; omega)))
  clear hW4 hL4 hg4 hal3 hg34 hb4 hb34 hgl4 hb5 herr hE
  go_wp2
  go_ret
  exact ⟨rfl, H5.out⟩
end Go.Proofs.Ytlckpgahijlmoaa
