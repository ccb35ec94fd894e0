/- R01.Inverse of a permutation. -/
import Derived.Test.YtlckpgahijlmoaaQ37
import Derived.Test.YtlckpgahijlmoaaQ24
/- R01.Valid: a permutation of four, by what has been seen. No condition. -/
namespace Go.Proofs.Ytlckpgahijlmoaa
open Go.RowKit Go.Shelf

/-- the first k entries hold j -/
def seenF (p : Nat → Int) (k j : Nat) : Bool := (List.range k).any fun i => p i == (j : Int)
theorem seenF_succ (p : Nat → Int) (k j : Nat) : seenF p (k + 1) j = (seenF p k j || p k == (j : Int)) := by simp [seenF, List.range_succ]
/-- every entry lies in 0 to 3 and none comes twice -/
def validR (p : Nat → Int) : Bool := (List.range 4).all fun k => inB (p k) && !seenF p k (p k).toNat

theorem validR_false {p : Nat → Int} {k : Nat} (hk : k < 4) (h : (inB (p k) && !seenF p k (p k).toNat) = false) : validR p = false := all_range_false (p := fun k => inB (p k) && !seenF p k (p k).toNat) hk h

set_option maxRecDepth 20000 in
set_option maxHeartbeats 1000000 in
theorem validR_walk (p : Nat → Int) (w : World) :
    Calls Try.prog 63 #[.agg (P4 p)] w fun e w' => e = .returned (.bool (validR p)) ∧ Below w.heap.size w w' := by
  unfold P4
  go_enter Try.func63, Try.ntmps63
  go_wp2
  refine wp_named fun W1 hW => ?_
  have h1 : (∀ i, i < 4 → W1.cell? ⟨w.heap.size, i, none⟩ = some (.int .i64 (p i))) ∧ (∀ j, j < 4 → W1.cell? ⟨w.heap.size + 1, j, none⟩ = some (.bool (seenF p 0 j))) ∧ (∀ j, W1.frozen? ⟨w.heap.size + 1, j, none⟩ = false) ∧ Below w.heap.size w W1 := by
    rw [hW]
    refine ⟨fun i hi => ?_, fun j hj => ?_, fun j => by simp [go_sem], by (repeat' (first | assumption | exact Below.refl _ _ | refine below_then ?_ (by assumption) | refine below_al ?_ _ | refine below_dr ?_ | refine below_sc ?_ (by simp <;> omega) _))⟩
    · match i, hi with
      | 0, _ => simp [go_sem]
      | 1, _ => simp [go_sem]
      | 2, _ => simp [go_sem]
      | 3, _ => simp [go_sem]
    · match j, hj with
      | 0, _ => simp [go_sem, seenF]
      | 1, _ => simp [go_sem, seenF]
      | 2, _ => simp [go_sem, seenF]
      | 3, _ => simp [go_sem, seenF]
  have H1 := Lib.hid h1; clear h1 hW
  obtain ⟨N, hN⟩ : ∃ N, w.heap.size = N := ⟨_, rfl⟩
  have HN := Lib.hid hN
  rw [hN] at H1 ⊢
  clear hN
  go_loopw [4] (fun i wr => ∃ k : Nat, k ≤ 4 ∧ i = .int .i64 k ∧ (List.range k).all (fun k => inB (p k) && !seenF p k (p k).toNat) = true ∧ (∀ i, i < 4 → wr.cell? ⟨N, i, none⟩ = some (.int .i64 (p i))) ∧ (∀ j, j < 4 → wr.cell? ⟨N + 1, j, none⟩ = some (.bool (seenF p k j))) ∧ (∀ j, wr.frozen? ⟨N + 1, j, none⟩ = false) ∧ Below N w wr) (fun i _ => 4 - (intOf i).toNat)
  case atStart => exact ⟨0, by omega, rfl, rfl, H1.out⟩
  case round =>
    clear H1
    obtain ⟨k, hk, rfl, hall, hp, hs, hf, hb⟩ := hrel
    have HK := Lib.hid (And.intro hall (And.intro hp (And.intro hs (And.intro hf hb))))
    rcases Nat.lt_or_ge k 4 with hk4 | hk4
    · have k0 : 0 ≤ (k : Int) := by omega
      have k4 : (k : Int) < 4 := by omega
      have x := hp k hk4
      clear hp hall hb
      by_cases hin : inB (p k) = true
      · obtain ⟨c, hc⟩ : ∃ c : Nat, p k = c := ⟨(p k).toNat, by have := inB_iff.1 hin; omega⟩
        have hc4 : c < 4 := by have := inB_iff.1 hin; omega
        have c0 : 0 ≤ (c : Int) := by omega
        have c4 : (c : Int) < 4 := by omega
        have y := hs c hc4
        have fy := hf c
        rw [hc] at x
        have HC := Lib.hid (And.intro hin hc)
        clear hs hf hin hc
        have c3 : (c : Int) ≤ 3 := by omega
        cases hsn : seenF p k c with
        | true =>
          rw [hsn] at y
          have HS := Lib.hid hsn; clear hsn
          go_wp2
          go_ret
          exact ⟨by rw [validR_false hk4 (by rw [HC.out.2, Int.toNat_natCast, HS.out]; simp)]; rfl, HN.out ▸ HK.out.2.2.2.2⟩
        | false =>
          rw [hsn] at y
          have HS := Lib.hid hsn; clear hsn
          go_wp2
          go_roundw
          case rel => 
            obtain ⟨ha, hp, hs, hf, hb⟩ := HK.out
            refine ⟨k + 1, by omega, rfl, ?_, fun i hi => (World.cell?_setCell_other (a := ⟨N + 1, c, none⟩) (b := ⟨N, i, none⟩) _ _ (by simp)).trans (hp i hi), fun j hj => ?_, fun j => by rw [World.frozen?_setCell]; exact hf j, hb.setCell (by show N ≤ N + 1; omega) _⟩
            · rw [List.range_succ, List.all_append, ha]
              have hi := HC.out.1
              rw [HC.out.2] at hi
              simp [hi, HC.out.2, HS.out]
            · rw [seenF_succ, HC.out.2]
              by_cases e : j = c
              · subst e
                rw [World.cell?_setCell_same _ _ _ (hs j hj)]; simp
              · rw [World.cell?_setCell_other (a := ⟨N + 1, c, none⟩) (b := ⟨N + 1, j, none⟩) _ _ (by simp <;> omega), hs j hj]
                have : ((c : Int) == (j : Int)) = false := by simp; omega
                rw [this, Bool.or_false]
          case measure => simp [intOf]; omega
      · have HI := Lib.hid hin
        rw [inB_iff] at hin
        clear hs hf
        rcases Int.lt_or_le (p k) 0 with hneg | hneg
        · go_wp2
          go_ret
          exact ⟨by rw [validR_false hk4 (by rw [Bool.eq_false_iff.2 HI.out]; simp)]; rfl, HN.out ▸ HK.out.2.2.2.2⟩
        · have hbig : 3 < p k := by omega
          go_wp2
          go_ret
          exact ⟨by rw [validR_false hk4 (by rw [Bool.eq_false_iff.2 HI.out]; simp)]; rfl, HN.out ▸ HK.out.2.2.2.2⟩
    · obtain rfl : k = 4 := by omega
      clear hp hs hf hall hb
      go_wp2
      go_ret
      exact ⟨by rw [validR, HK.out.1]; rfl, HN.out ▸ HK.out.2.2.2.2⟩
end Go.Proofs.Ytlckpgahijlmoaa
namespace Go.Proofs.Ytlckpgahijlmoaa
open Go.RowKit Go.Shelf

theorem validR_in {p : Nat → Int} (h : validR p = true) : ∀ i, i < 4 → inB (p i) = true := fun i hi => by
  have := List.all_eq_true.1 h i (List.mem_range.2 hi)
  simp only [Bool.and_eq_true] at this
  exact this.1

set_option maxRecDepth 20000 in
set_option maxHeartbeats 1000000 in
theorem inverseR_walk (p : Nat → Int) (w : World) (hv : validR p = true) :
    Calls Try.prog 64 #[.agg (P4 p)] w fun e w' => e = .returned (.agg (P4 (invF p))) ∧ Below w.heap.size w w' := by
  have HI := Lib.hid (validR_in hv)
  have hS := fun W => validR_walk p W
  rw [hv] at hS
  unfold P4 at hS
  have HS := Lib.hid hS; clear hS hv
  unfold P4
  go_enter Try.func64, Try.ntmps64
  go_wp2_with (go_at_call 63; (with_reducible refine (HS.out _).mono ?_); rintro e w1 ⟨rfl, hb⟩; have HB := Lib.hid hb; clear hb)
  have h1 : (∀ i, i < 4 → w1.cell? ⟨w.heap.size, i, none⟩ = some (.int .i64 (p i))) ∧ (∀ j, j < 4 → w1.cell? ⟨w.heap.size + 1, j, none⟩ = some (.int .i64 0)) ∧ (∀ j, j < 4 → w1.cell? ⟨w.heap.size + 2, j, none⟩ = some (.int .i64 (invK p 0 j))) ∧ (∀ j, w1.frozen? ⟨w.heap.size + 1, j, none⟩ = false) ∧ (∀ j, w1.frozen? ⟨w.heap.size + 2, j, none⟩ = false) ∧ Below w.heap.size w w1 := by
    have hb := HB.out
    refine ⟨fun i hi => (hb.cell (p := ⟨w.heap.size, i, none⟩) (by simp <;> omega)).trans ?_, fun j hj => (hb.cell (p := ⟨w.heap.size + 1, j, none⟩) (by simp <;> omega)).trans ?_, fun j hj => (hb.cell (p := ⟨w.heap.size + 2, j, none⟩) (by simp <;> omega)).trans ?_, fun j => (hb.frozen (p := ⟨w.heap.size + 1, j, none⟩) (by simp <;> omega)).trans (by simp [go_sem]), fun j => (hb.frozen (p := ⟨w.heap.size + 2, j, none⟩) (by simp <;> omega)).trans (by simp [go_sem]), ?_⟩
    · match i, hi with
      | 0, _ => simp [go_sem]
      | 1, _ => simp [go_sem]
      | 2, _ => simp [go_sem]
      | 3, _ => simp [go_sem]
    · match j, hj with
      | 0, _ => simp [go_sem]
      | 1, _ => simp [go_sem]
      | 2, _ => simp [go_sem]
      | 3, _ => simp [go_sem]
    · match j, hj with
      | 0, _ => simp [go_sem, invK]
      | 1, _ => simp [go_sem, invK]
      | 2, _ => simp [go_sem, invK]
      | 3, _ => simp [go_sem, invK]
    · exact Below.trans (by (repeat' (first | assumption | exact Below.refl _ _ | refine below_then ?_ (by assumption) | refine below_al ?_ _ | refine below_dr ?_ | refine below_sc ?_ (by simp <;> omega) _))) (hb.mono (by simp <;> omega))
  have H1 := Lib.hid h1; clear h1 HB
  obtain ⟨N, hN⟩ : ∃ N, w.heap.size = N := ⟨_, rfl⟩
  have HN := Lib.hid hN
  rw [hN] at H1 ⊢
  clear hN
  go_loopw [4] (fun i wr => ∃ k : Nat, k ≤ 4 ∧ i = .int .i64 k ∧ (∀ i, i < 4 → wr.cell? ⟨N, i, none⟩ = some (.int .i64 (p i))) ∧ (∀ j, j < 4 → wr.cell? ⟨N + 1, j, none⟩ = some (.int .i64 0)) ∧ (∀ j, j < 4 → wr.cell? ⟨N + 2, j, none⟩ = some (.int .i64 (invK p k j))) ∧ (∀ j, wr.frozen? ⟨N + 1, j, none⟩ = false) ∧ (∀ j, wr.frozen? ⟨N + 2, j, none⟩ = false) ∧ Below N w wr) (fun i _ => 4 - (intOf i).toNat)
  case atStart => exact ⟨0, by omega, rfl, H1.out⟩
  case round =>
    clear H1
    obtain ⟨k, hk, rfl, hp, hr, hs, fr, fs, hb⟩ := hrel
    have HK := Lib.hid (And.intro hp (And.intro hr (And.intro hs (And.intro fr (And.intro fs hb)))))
    rcases Nat.lt_or_ge k 4 with hk4 | hk4
    · have k0 : 0 ≤ (k : Int) := by omega
      have k4 : (k : Int) < 4 := by omega
      have x := hp k hk4
      obtain ⟨c, hc⟩ : ∃ c : Nat, p k = c := ⟨(p k).toNat, by have := inB_iff.1 (HI.out k hk4); omega⟩
      have hc4 : c < 4 := by have := inB_iff.1 (HI.out k hk4); omega
      have c0 : 0 ≤ (c : Int) := by omega
      have c4 : (c : Int) < 4 := by omega
      have y := hs c hc4
      have fy := fs c
      rw [hc] at x
      have HC := Lib.hid hc
      clear hp hr hs fr fs hb hc
      go_wp2
      go_roundw
      case rel =>
        obtain ⟨hp, hr, hs, fr, fs, hb⟩ := HK.out
        refine ⟨k + 1, by omega, rfl, fun i hi => (World.cell?_setCell_other (a := ⟨N + 2, c, none⟩) (b := ⟨N, i, none⟩) _ _ (by simp)).trans (hp i hi), fun i hi => (World.cell?_setCell_other (a := ⟨N + 2, c, none⟩) (b := ⟨N + 1, i, none⟩) _ _ (by simp)).trans (hr i hi), fun j hj => ?_, fun j => by rw [World.frozen?_setCell]; exact fr j, fun j => by rw [World.frozen?_setCell]; exact fs j, hb.setCell (by show N ≤ N + 2; omega) _⟩
        have hu : invK p (k + 1) j = if j = c then (k : Int) else invK p k j := by simp only [invK, upd, HC.out, Int.toNat_natCast]
        rw [hu]
        by_cases e : j = c
        · subst e
          rw [World.cell?_setCell_same _ _ _ (hs j hj), if_pos rfl]
        · rw [World.cell?_setCell_other (a := ⟨N + 2, c, none⟩) (b := ⟨N + 2, j, none⟩) _ _ (by simp <;> omega), hs j hj, if_neg e]
      case measure => simp [intOf]; omega
    · obtain rfl : k = 4 := by omega
      have a0 := hs 0 (by omega)
      have a1 := hs 1 (by omega)
      have a2 := hs 2 (by omega)
      have a3 := hs 3 (by omega)
      have b0 := hr 0 (by omega)
      have b1 := hr 1 (by omega)
      have b2 := hr 2 (by omega)
      have b3 := hr 3 (by omega)
      have e0 := fr 0
      have e1 := fr 1
      have e2 := fr 2
      have e3 := fr 3
      clear hp hr hs fr fs hb
      go_wp2
      refine bodyPost_ret (v := .agg (P4 (invK p 4))) (by simp [results, Try.results64, go_sem, P4, *]) rfl ⟨rfl, ?_⟩
      rw [HN.out]
      exact (((HK.out.2.2.2.2.2.setCell (by show N ≤ N + 1; omega) _).setCell (by show N ≤ N + 1; omega) _).setCell (by show N ≤ N + 1; omega) _).setCell (by show N ≤ N + 1; omega) _
end Go.Proofs.Ytlckpgahijlmoaa
