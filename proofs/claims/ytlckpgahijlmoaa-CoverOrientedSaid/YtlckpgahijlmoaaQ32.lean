/- R08.CopyGluing: a gluing with memory of its own. No condition. -/
import Derived.Test.YtlckpgahijlmoaaQ16
import Derived.Deep.RegionLaw
namespace Go.Proofs.Ytlckpgahijlmoaa
open Go.RowKit Go.Shelf

theorem und22 : Try.prog.underlying 22 = some (.slice 88) := by kernel_rfl
theorem info88 : ∃ i, Try.prog.info? 88 = some i ∧ (∃ z, i.zero = some z ∧ z.cells.size = 20) ∧ i.size = 20 ∧ i.bytes = 160 := by
  have h : (Try.prog.info? 88).map (fun i => (i.zero.map (fun z => z.cells.size), i.size, i.bytes)) = some (some 20, 20, 160) := by kernel_rfl
  cases hi : Try.prog.info? 88 with
  | none => rw [hi] at h; cases h
  | some i =>
    rw [hi] at h
    simp only [Option.map_some, Option.some.injEq, Prod.mk.injEq] at h
    cases hz : i.zero with
    | none => rw [hz] at h; simp at h
    | some z =>
      rw [hz] at h
      simp only [Option.map_some, Option.some.injEq] at h
      exact ⟨i, rfl, ⟨z, hz, h.1⟩, h.2.1, h.2.2⟩
def gcells (G : Gl) : List Value := (List.range G.n).flatMap fun t => (rowA G t).toList
theorem flat_len {α : Type} (f : Nat → List α) (c : Nat) (hf : ∀ t, (f t).length = c) (n : Nat) : ((List.range n).flatMap f).length = n * c := by
  induction n with
  | zero => simp
  | succ n ih => rw [List.range_succ, List.flatMap_append, List.length_append, ih]; simp [hf, Nat.succ_mul]
theorem flat_get {α : Type} (f : Nat → List α) (c : Nat) (hf : ∀ t, (f t).length = c) (n t j : Nat) (ht : t < n) (hj : j < c) : ((List.range n).flatMap f)[t * c + j]? = (f t)[j]? := by
  induction n with
  | zero => omega
  | succ n ih =>
    rw [List.range_succ, List.flatMap_append]
    have hl := flat_len f c hf n
    by_cases e : t = n
    · subst e
      rw [List.getElem?_append_right (by omega), hl]
      simp [Nat.add_sub_cancel_left]
    · have hlt : t * c + j < n * c := by
        have : (t + 1) * c ≤ n * c := Nat.mul_le_mul_right c (by omega)
        rw [Nat.succ_mul] at this; omega
      rw [List.getElem?_append_left (by omega)]
      exact ih (by omega)
theorem rowA_len (G : Gl) (t : Nat) : (rowA G t).toList.length = 20 := rfl
theorem gcells_len (G : Gl) : (gcells G).length = G.n * 20 := flat_len _ 20 (rowA_len G) _
theorem gcells_get (G : Gl) {t j : Nat} (ht : t < G.n) (hj : j < 20) : (gcells G)[t * 20 + j]? = (rowA G t)[j]? := by
  unfold gcells
  rw [flat_get _ 20 (rowA_len G) _ _ _ ht hj]; simp
theorem gcells_one (G : Gl) : ∀ u ∈ gcells G, u.oneCell' = true := by
  intro u hu
  simp only [gcells, List.mem_flatMap] at hu
  obtain ⟨t, _, h⟩ := hu
  exact (Array.all_eq_true_iff_forall_mem.1 (rowA_one G t)) u (by simpa using h)
/-- the cells of a gluing, read off a row -/
theorem GlAt.of_cells {W : World} {B g : Nat} {G : Gl} {cap : Nat} (hg : g < B) (h : ∀ j u, (gcells G)[j]? = some u → W.cell? ⟨g, j, none⟩ = some u) : GlAt B W (.slice (some ⟨g, 0, none⟩) G.n cap) G := by
  have cell : ∀ t j, t < G.n → j < 20 → W.cell? ⟨g, t * 20 + j, none⟩ = (rowA G t)[j]? := fun t j ht hj => by
    have e := gcells_get G ht hj
    cases hr : (rowA G t)[j]? with
    | none =>
      have : (rowA G t).size = 20 := rfl
      rw [Array.getElem?_eq_none_iff] at hr; omega
    | some u => exact h _ u (by rw [e, hr])
  refine ⟨_, g, 0, cap, rfl, fun _ => ⟨rfl, hg⟩, fun k hk => ?_⟩
  have hf : k % 4 = 0 ∨ k % 4 = 1 ∨ k % 4 = 2 ∨ k % 4 = 3 := by omega
  have hk4 : 4 * (k / 4) + k % 4 = k := by omega
  refine ⟨?_, fun i hi => ?_⟩
  · have := cell (k / 4) (k % 4 * 5) (by omega) (by omega)
    rw [show k / 4 * 20 + k % 4 * 5 = 0 + 5 * k by omega] at this
    rw [this]
    rcases hf with e | e | e | e <;> rw [e] at hk4 ⊢ <;> simp [rowA] <;> (congr 1 <;> omega)
  · have := cell (k / 4) (k % 4 * 5 + 1 + i) (by omega) (by omega)
    rw [show k / 4 * 20 + (k % 4 * 5 + 1 + i) = 0 + 5 * k + 1 + i by omega] at this
    rw [this]
    have hi4 : i = 0 ∨ i = 1 ∨ i = 2 ∨ i = 3 := by omega
    rcases hf with e | e | e | e <;> rcases hi4 with rfl | rfl | rfl | rfl <;> rw [e] at hk4 ⊢ <;> simp [rowA] <;> (congr 1 <;> omega)

set_option maxRecDepth 100000 in
set_option maxHeartbeats 2000000 in
theorem CopyGluing_walk (G : Gl) (hn : G.n ≤ 1000) (w : World) (v : Value) (hv : GlAt w.heap.size w v G) :
    Calls Try.prog 32 #[.agg #[v]] w fun e w' => ∃ u, e = .returned (.agg #[u]) ∧ GlAt w'.heap.size w' u G ∧ (∀ a n c, u = .slice (some a) n c → w.heap.size ≤ a.block) ∧ Below w.heap.size w w' := by
  obtain ⟨a, b, off, cap, rfl, ha, hc⟩ := hv
  have HC := Lib.hid (And.intro ha hc); clear ha hc
  go_enter Try.func32, Try.ntmps32
  by_cases h0 : G.n = 0
  · have HN := Lib.hid h0
    rw [h0]
    clear h0
    have hz : ∀ (W : World), GlAt W.heap.size W (.slice none 0 0) G := fun W => ⟨none, 0, 0, 0, by rw [HN.out], fun h => by rw [HN.out] at h; omega, fun k hk => by rw [HN.out] at hk; omega⟩
    have HZ := Lib.hid hz; clear hz
    cases a with
    | none =>
      go_wp2
      exact bodyPost_ret (v := .agg #[.slice none 0 0]) (by simp [results, Try.results32, go_sem, *]) rfl ⟨_, rfl, HZ.out _, (fun _ _ _ h => by simp at h), by (repeat' (first | assumption | exact Below.refl _ _ | refine below_then ?_ (by assumption) | refine below_al ?_ _ | refine below_dr ?_ | refine below_sc ?_ (by simp <;> omega) _))⟩
    | some ad =>
      go_wp2
      exact bodyPost_ret (v := .agg #[.slice none 0 0]) (by simp [results, Try.results32, go_sem, *]) rfl ⟨_, rfl, HZ.out _, (fun _ _ _ h => by simp at h), by (repeat' (first | assumption | exact Below.refl _ _ | refine below_then ?_ (by assumption) | refine below_al ?_ _ | refine below_dr ?_ | refine below_sc ?_ (by simp <;> omega) _))⟩
  · have hpos : 0 < G.n := by omega
    obtain ⟨rfl, hb⟩ := HC.out.1 hpos
    have hcells : ∀ W : World, Below w.heap.size w W → ∀ j u, (gcells G)[j]? = some u → W.cell? ((⟨b, off, none⟩ : Addr).add j) = some u := fun W hW j u hu => by
      have hj : j < G.n * 20 := by have := (List.getElem?_eq_some_iff.1 hu).1; rw [gcells_len] at this; exact this
      have hr := rowCells (W := W) (b := b) (off := off) (fun k hk => ⟨(hW.cell (p := ⟨b, _, none⟩) hb).trans (HC.out.2 k hk).1, fun i hi => (hW.cell (p := ⟨b, _, none⟩) hb).trans ((HC.out.2 k hk).2 i hi)⟩) (j / 20) (by omega) (j % 20) (by omega)
      have e : j = j / 20 * 20 + j % 20 := by omega
      rw [e, gcells_get G (by omega) (by omega), ← hr] at hu
      rw [Addr.add_mid, show off + j = off + j / 20 * 20 + j % 20 by omega]; exact hu
    have HH := Lib.hid hcells; clear hcells
    obtain ⟨i0, hi0, ⟨z0, hz0, hzs⟩, hz1, hz2⟩ := info88
    have hB3 : Below w.heap.size w (((w.alloc (.cells #[.slice (some ⟨b, off, none⟩) G.n cap] 24)).alloc (.cells #[.slice none 0 0] 24)).alloc (.cells #[.slice none 0 0] 24)) := by (repeat' (first | assumption | exact Below.refl _ _ | refine below_then ?_ (by assumption) | refine below_al ?_ _ | refine below_dr ?_ | refine below_sc ?_ (by simp <;> omega) _))
    have HB3 := Lib.hid hB3; clear hB3
    go_wp2_with (at_builtin; refine (wpList_append_lies _ rfl (.tmp 5) (.tmp 7) 22 rfl w.heap.size 88 i0 z0 20 160 und22 hi0 hz0 hz1 hz2 hzs (by omega) (.slice none 0 0) 0 [] rfl (World.ownsRow_nil _ _ _ _) ⟨b, off, none⟩ G.n cap (gcells G) rfl (gcells_len G) (HH.out _ HB3.out) (gcells_one G) hpos (by unfold maxLen; omega) (by omega) (by simp; omega) (w.heap.size + 1 + 1 + 1) (by simp) ?_); intro g cp w1 h1 h2 h3 h4; have q1 := h2.cell (a := ⟨w.heap.size + 1 + 1, 0, none⟩) (v := .slice none 0 0) (by simp [go_sem]) (by simp [Value.ownBlock]); have q2 : w1.frozen? ⟨w.heap.size + 1 + 1, 0, none⟩ = false := (h2.frozen_far ⟨w.heap.size + 1 + 1, 0, none⟩ (by simp) (by simp [Value.ownBlock])).trans (by simp [go_sem]); have q3 := h2.cell (a := ⟨w.heap.size + 1, 0, none⟩) (v := .slice none 0 0) (by simp [go_sem]) (by simp [Value.ownBlock]); have q4 : w1.frozen? ⟨w.heap.size + 1, 0, none⟩ = false := (h2.frozen_far ⟨w.heap.size + 1, 0, none⟩ (by simp <;> omega) (by simp [Value.ownBlock])).trans (by simp [go_sem]); have H1 := Lib.hid (And.intro h1 (And.intro h2 (And.intro h3 h4))); clear h1 h2 h3 h4)
    obtain ⟨hown, hgrow, hat, hlt⟩ := H1.out
    rw [Nat.zero_add, List.nil_append] at hown
    have hgs := hgrow.size
    simp only [World.size_alloc] at hgs
    have hg : g = w.heap.size + 1 + 1 + 1 := by simpa [Value.ownBlock] using hat
    have hB1 : Below w.heap.size w w1 := HB3.out.grown hgrow (by simp; omega) (fun k hk => by simp [Value.ownBlock] at hk)
    have HF := Lib.hid (And.intro hown (And.intro hg (And.intro hlt hB1)))
    clear hown hgrow hat hlt hg hB1
    refine bodyPost_ret (v := .agg #[.slice (some ⟨g, 0, none⟩) G.n cp]) (by simp [results, Try.results32, go_sem, *]) rfl ⟨_, rfl, ?_, (fun a n c h => by have := HF.out.2.1; simp only [Value.slice.injEq, Option.some.injEq] at h; rw [← h.1]; show w.heap.size ≤ g; omega), (HF.out.2.2.2.setCell (by show w.heap.size ≤ w.heap.size + 1 + 1; omega) _).setCell (by show w.heap.size ≤ w.heap.size + 1; omega) _⟩
    obtain ⟨hown, hg, hlt, hB1⟩ := HF.out
    refine GlAt.of_cells (by simpa using hlt) (fun j u hu => ?_)
    have h1 := (hown.kept (grownBy_setCell w1 (w.heap.size + 1 + 1) 0 (.slice (some ⟨g, 0, none⟩) G.n cp)) (.inr (by simp [Value.ownBlock]; omega))).kept (grownBy_setCell _ (w.heap.size + 1) 0 (.slice (some ⟨g, 0, none⟩) G.n cp)) (.inr (by simp [Value.ownBlock]; omega))
    have := h1.cells (g := g) rfl j u hu
    rwa [Addr.add_mid, Nat.zero_add] at this
end Go.Proofs.Ytlckpgahijlmoaa
