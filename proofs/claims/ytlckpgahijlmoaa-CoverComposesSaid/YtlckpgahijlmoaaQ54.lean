/- The arguments of the laws on coverings, opened: lists with their capacities. No condition. -/
import Derived.Test.YtlckpgahijlmoaaQ53
import Derived.Test.YtlckpgahijlmoaaQ45
namespace Go.Proofs.Ytlckpgahijlmoaa
open Go.RowKit Go.ChangeShapes Go.WideShapes Go.ChangeAt Go.Deep Go.Joins

theorem bytes35 : Try.prog.bytesOf 35 = 24 := by kernel_rfl
section
variable {H : Type} {enc : TypeId × Value → H} {W : World}
/-- a list of lists of integers that came in, with their capacities -/
theorem open_listsC {cs : List Value} {fuel : Nat} {x : DataW H × List MemPlace} (h : DataW.trod enc Try.prog W 0 (fun _ => true) true fuel 26 cs = some x) :
    ∃ v n len f, cs = [v] ∧ LLc W.heap.size W v n len f ∧ n ≤ maxLen ∧ ((∀ m ∈ x.1.weights Try.prog 26, m ≤ reachBytes) → n ≤ 17592186044416 ∧ ∀ k, k < n → len k ≤ 17592186044416) := by
  rcases open_int_rows Try.underlying26 Try.underlying35 Try.underlying3 cells35 cells3 h with ⟨rfl, rfl⟩ | ⟨a, n, cap, A, L, C, Z, rfl, _, hl, hm, rfl, hx⟩
  · exact ⟨_, 0, fun _ => 0, fun _ _ => 0, rfl, ⟨none, 0, 0, 0, rfl, fun h => by omega, fun k hk => by omega⟩, Nat.zero_le _, fun _ => ⟨by omega, fun k hk => by omega⟩⟩
  · obtain ⟨b, off, spot⟩ := a
    refine ⟨_, n, L, fun k i => (Z k).getD i 0, rfl, ⟨some ⟨b, off, spot⟩, b, off, cap, rfl, fun hn => ?_, fun k hk => ?_⟩, Nat.le_trans hl hm, fun hw => ⟨?_, fun k hk => ?_⟩⟩
    · have h0 := (hx 0 (by omega)).1
      have hs : spot = none := by simpa [Addr.add] using World.cell?_spot h0
      exact ⟨by rw [hs], by have := lt_of_cell h0; simpa [Addr.add] using this⟩
    · have hs : spot = none := by simpa [Addr.add] using World.cell?_spot (hx 0 (by omega)).1
      subst hs
      obtain ⟨h0, h1, h2, h3, h4, h5, h6⟩ := hx k (by omega)
      rw [add_none] at h0
      refine ⟨A k, (A k).elim 0 (·.block), (A k).elim 0 (·.off), C k, h0, h1, fun hp => ?_, fun i hi => ?_⟩
      · cases e : A k with
        | none => have := h5 e; omega
        | some a' =>
          have h7 := (h6 a' e).2 0 (by omega)
          obtain ⟨rb, ro, rs⟩ := a'
          have hs : rs = none := by simpa [Addr.add] using World.cell?_spot h7
          exact ⟨by rw [hs]; rfl, by have := lt_of_cell h7; simpa [Addr.add] using this⟩
      · cases e : A k with
        | none => have := h5 e; omega
        | some a' =>
          have h7 := (h6 a' e).2 i (by omega)
          have h8 := (h6 a' e).2 0 (by omega)
          obtain ⟨rb, ro, rs⟩ := a'
          have hs : rs = none := by simpa [Addr.add] using World.cell?_spot h8
          subst hs
          rw [add_none] at h7
          exact h7
    · have h8 := hw (((List.range n).map fun r => intRow (H := H) IntKind.i64 (A r) (L r) (Z r)).length * Try.prog.bytesOf 35 + ((List.range (cap - n)).map fun j => intRow (H := H) IntKind.i64 (A (n + j)) (L (n + j)) (Z (n + j))).length * Try.prog.bytesOf 35) (by
        simp only [DataW.weights, Try.underlying26, ← Nat.add_mul]
        exact List.mem_cons_self)
      rw [bytes35] at h8
      simp only [List.length_map, List.length_range, reachBytes] at h8
      omega
    · obtain ⟨_, h1, _, h3, _, h5, _⟩ := hx k (by omega)
      cases e : A k with
      | none => have := h5 e; omega
      | some a' =>
        have hin : (C k) * 8 ∈ (intRow (H := H) IntKind.i64 (A k) (L k) (Z k)).weights Try.prog 35 := by
          simp only [intRow, e, DataW.weights, Try.underlying35, bytes3]
          refine List.mem_cons.2 (.inl ?_)
          simp only [lits, List.length_map, List.length_take, List.length_drop, h3]
          omega
        have h8 := hw (C k * 8) (by
          simp only [DataW.weights, Try.underlying26]
          exact List.mem_cons_of_mem _ (List.mem_append_left _ (weights_mem_all (List.mem_map.2 ⟨k, List.mem_range.2 hk, rfl⟩) hin)))
        simp only [reachBytes] at h8
        omega

/-- a covering that came in, with its capacities -/
theorem open_coveringC {v : Value} {d : DataW H} {p : List MemPlace} (h : DataW.Trod enc Try.prog W 0 (fun _ => true) true 28 v d p) :
    ∃ sh u n len f, v.cells = #[.int .i64 sh, u] ∧ LLc W.heap.size W u n len f ∧ n ≤ maxLen ∧ (Lit.int .i64 sh).wf = true ∧ ((∀ m ∈ d.weights Try.prog 28, m ≤ reachBytes) → n ≤ 17592186044416 ∧ ∀ k, k < n → len k ≤ 17592186044416) := by
  obtain ⟨fuel, h⟩ := h
  obtain ⟨xs, m, rfl, hd, hl, hn, hx⟩ := DataW.trod_struct Try.underlying28 h
  have hn2 : xs.length = 2 := hn
  have h0 : DataW.trod enc Try.prog W 0 (fun _ => true) true m 3 ((v.cells.toList.drop 0).take (Try.prog.cellsOf 3)) = xs[0]? := hx 0 _ rfl
  have h1 : DataW.trod enc Try.prog W 0 (fun _ => true) true m 26 ((v.cells.toList.drop 1).take (Try.prog.cellsOf 26)) = xs[1]? := hx 1 _ rfl
  rw [cells28] at hl
  rw [cells3] at h0
  rw [cells26] at h1
  obtain ⟨x0, x1, rfl⟩ : ∃ x0 x1, xs = [x0, x1] := by
    match xs, hn2 with
    | [x0, x1], _ => exact ⟨x0, x1, rfl⟩
  obtain ⟨c0, c1, hc⟩ : ∃ c0 c1, v.cells.toList = [c0, c1] := by
    match v.cells.toList, hl with
    | [c0, c1], _ => exact ⟨c0, c1, rfl⟩
  rw [hc] at h0 h1
  simp at h0 h1
  obtain ⟨z, h2, _, hz⟩ := DataW.trod_int Try.underlying3 h0
  obtain ⟨u, n, len, f, h3, h4, h5, h6⟩ := open_listsC h1
  refine ⟨z, u, n, len, f, ?_, h4, h5, hz, fun hw => h6 fun m hm => hw m ?_⟩
  · rw [← Array.toArray_toList (xs := v.cells), hc]
    simp at h2 h3
    rw [h2, h3]
  · simp only [Prod.mk.injEq] at hd
    rw [hd.1]
    simp only [DataW.weights, Try.underlying28, DataW.weightsEach, List.map_cons, List.map_nil, List.mem_append]
    exact .inr (.inl hm)
end
end Go.Proofs.Ytlckpgahijlmoaa
