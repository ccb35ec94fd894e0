/- The searches for a map of the tetrahedra that commutes with gluings: deck and shifts. -/
import Derived.Test.YtlckpgahijlmoaaQ48
import Derived.Test.YtlckpgahijlmoaaQ39
/- R11.Make. -/
namespace Go.Proofs.Ytlckpgahijlmoaa
open Go.RowKit Go.Shelf

section
variable (G : Gl) (v : Value) (S : Int) (pv : Value) (np : Nat) (len : Nat → Nat) (fp : Nat → Nat → Int) (w : World) (hG : GlAt w.heap.size w v G) (hm : G.n ≤ 9223372036854775807) (hpv : LLc w.heap.size w pv np len fp) (hlen : ∀ k, k < np → len k < 4611686018427387904) (hnp : np < 4611686018427387904)
include hG hm hpv hlen hnp
set_option maxRecDepth 100000 in
set_option maxHeartbeats 1000000 in
theorem rmake_walk : Calls Try.prog 25 #[.agg #[v], .agg #[.int .i64 S, pv]] w fun e w' => Below w.heap.size w w' ∧ ∃ u, e = .returned (.tuple #[.agg #[u], .int .i64 (rerI G S np len fp)]) ∧
    ((rerI G S np len fp ≠ 0 ∧ u = .slice none 0 0) ∨ (rerI G S np len fp = 0 ∧ GlAt w'.heap.size w' u (covG G fp (fun k => invP (fp k) S.toNat) S.toNat))) := by
  have HG := Lib.hid (And.intro hG (And.intro hpv hlen))
  obtain ⟨a, cap, rfl⟩ : ∃ a cap, v = .slice a G.n cap := by obtain ⟨a, _, _, cap, e, _⟩ := hG; exact ⟨a, cap, e⟩
  obtain ⟨pa, pc, rfl⟩ : ∃ a cap, pv = .slice a np cap := by obtain ⟨a, _, _, cap, e, _⟩ := hpv; exact ⟨a, cap, e⟩
  clear hG hpv hlen
  obtain ⟨N, hN⟩ : ∃ N, N = w.heap.size := ⟨_, rfl⟩
  have HN := Lib.hid hN
  go_enter Try.func25, Try.ntmps25
  go_wp2_with fail
  rw [← hN]
  refine wp_world_named fun W0 hW => ?_
  have h0 : Below N w W0 ∧ W0.cell? ⟨N, 0, none⟩ = some (.slice a G.n cap) ∧ W0.cell? ⟨N + 1, 0, none⟩ = some (.int .i64 S) ∧ W0.cell? ⟨N + 1, 1, none⟩ = some (.slice pa np pc) ∧ W0.cell? ⟨N + 1 + 1, 0, none⟩ = some (.slice none 0 0) ∧ W0.frozen? ⟨N + 1 + 1, 0, none⟩ = false ∧ W0.heap.size = N + 3 := by
    rw [hW, hN]; exact ⟨by (repeat' (first | assumption | exact Below.refl _ _ | refine below_then ?_ (by assumption) | refine below_al ?_ _ | refine below_dr ?_ | refine below_sc ?_ (by simp <;> omega) _)), by simp [go_sem], by simp [go_sem], by simp [go_sem], by simp [go_sem], by simp [go_sem], by simp⟩
  obtain ⟨hb, c0, c1, c2, cr, fr, hz⟩ := h0
  have hbw : Below w.heap.size w W0 := by rw [← hN]; exact hb
  refine (rcheck_walk G (.slice a G.n cap) S (.slice pa np pc) np len fp W0 ((HG.out.1.below hbw).mono hbw.size) hm ((HG.out.2.1.below hbw).mono hbw.size) HG.out.2.2 hnp).mono ?_
  rintro e W1 ⟨rfl, hb1⟩
  have hg1 := below_grown hb1 (Nat.le_refl _) none
  have k0 := hg1.cell c0 (by simp)
  have k1 := hg1.cell c1 (by simp)
  have k2 := hg1.cell c2 (by simp)
  have kr := hg1.cell cr (by simp)
  have kf := (hg1.frozen_far ⟨N + 1 + 1, 0, none⟩ (lt_of_cell cr) (by simp)).trans fr
  have hbw1 : Below N w W1 := hb.trans (hb1.mono (by omega))
  have hNs : N ≤ W1.heap.size := by have := hb1.size; omega
  have H1 := Lib.hid hbw1
  clear hW hN hb hb1 c0 c1 c2 cr fr hz hbw hg1 hbw1
  by_cases hz : rerI G S np len fp = 0
  · obtain ⟨hok, hcov⟩ := rerI_zero hz
    have hbw2 : Below w.heap.size w W1 := by rw [← HN.out]; exact H1.out
    have h51 := rmade_walk hok S np len fp hcov (.slice a G.n cap) (.slice pa np pc) W1 ((HG.out.1.below hbw2).mono hbw2.size) (LLc.LLs ((HG.out.2.1.below hbw2).mono hbw2.size))
    have H51 := Lib.hid h51
    have HZ := Lib.hid hz
    rw [hz]
    clear hz hok h51 hbw2 hcov
    go_wp2_with fail
    refine H51.out.mono ?_
    rintro e W2 ⟨u, rfl, hgl, hb2⟩
    have y2 := (hb2.cell (p := ⟨N + 1 + 1, 0, none⟩) (lt_of_cell kr)).trans kr
    have z2 := (hb2.frozen (p := ⟨N + 1 + 1, 0, none⟩) (lt_of_cell kr)).trans kf
    obtain ⟨H, hH⟩ : ∃ H, H = covG G fp (fun k => invP (fp k) S.toNat) S.toNat := ⟨_, rfl⟩
    rw [← hH] at hgl
    obtain ⟨ga, gc, rfl⟩ : ∃ ga gc, u = .slice ga H.n gc := by obtain ⟨a, _, _, cap, e, _⟩ := hgl; exact ⟨a, cap, e⟩
    have H2 := Lib.hid (And.intro hgl (And.intro hb2 (And.intro hH y2)))
    clear hgl hb2 hH k0 k1 k2 kr kf
    go_wp2
    refine bodyPost_ret (v := .tuple #[.agg #[.slice ga H.n gc], .int .i64 0]) (by simp [results, Try.results25, go_sem, *]) rfl ⟨?_, _, by rw [HZ.out], .inr ⟨HZ.out, ?_⟩⟩
    · rw [← HN.out]; exact (H1.out.trans (H2.out.2.1.mono hNs)).setCell (by show N ≤ N + 1 + 1; omega) _
    · rw [World.size_setCell]
      rw [← H2.out.2.2.1]
      exact H2.out.1.setSlot H2.out.2.2.2 _
  · have HZ := Lib.hid hz
    obtain ⟨c, hc⟩ : ∃ c, c = rerI G S np len fp := ⟨_, rfl⟩
    rw [← hc] at hz HZ ⊢
    have HC := Lib.hid hc
    have q1 : (c != 0) = true := by simpa using hz
    clear hz hc k0 k1 k2
    go_wp2
    refine bodyPost_ret (v := .tuple #[.agg #[.slice none 0 0], .int .i64 c]) (by simp [results, Try.results25, go_sem, *]) rfl ⟨?_, _, by rw [HC.out], .inl ⟨by rw [← HC.out]; exact HZ.out, rfl⟩⟩
    rw [← HN.out]; exact H1.out.setCell (by show N ≤ N + 1 + 1; omega) _
end
end Go.Proofs.Ytlckpgahijlmoaa
/- R11.Project. -/
namespace Go.Proofs.Ytlckpgahijlmoaa
open Go.RowKit Go.Shelf

/-- a built list as a slice of numbers -/
theorem SI.of_own {W : World} {base k : Nat} {u : Value} {f : Nat → Int} (h : W.ownsRow base 3 1 u k (nums f k)) : SI W.heap.size W u k f := by
  obtain ⟨a, cp, rfl⟩ := ownsRow_form h
  by_cases h0 : k = 0
  · exact ⟨a, 0, 0, cp, rfl, fun q => by exfalso; omega, fun j hj => by exfalso; omega⟩
  · obtain ⟨g, c, hv, _⟩ := h.form (by omega)
    have hv' := hv
    simp only [Value.slice.injEq, true_and] at hv'
    obtain ⟨rfl, rfl⟩ := hv'
    refine ⟨_, g, 0, _, rfl, fun _ => ⟨rfl, own_lt_size h rfl⟩, fun j hj => ?_⟩
    have := h.cells (g := g) rfl j (.int .i64 (f j)) (by simp [nums, hj])
    rwa [Addr.add_mid] at this

section
variable (G : Gl) (v : Value) (S : Int) (pv : Value) (np : Nat) (len : Nat → Nat) (fp : Nat → Nat → Int) (w : World) (hG : GlAt w.heap.size w v G) (hm : G.n ≤ 9223372036854775807) (hpv : LLc w.heap.size w pv np len fp) (hlen : ∀ k, k < np → len k < 4611686018427387904) (hnp : np < 4611686018427387904)
include hG hm hpv hlen hnp
set_option maxRecDepth 100000 in
set_option maxHeartbeats 1000000 in
theorem rproject_walk : Calls Try.prog 26 #[.agg #[v], .agg #[.int .i64 S, pv]] w fun e w' => Below w.heap.size w w' ∧ ∃ u, e = .returned (.tuple #[u, .int .i64 (rerI G S np len fp)]) ∧
    ((rerI G S np len fp ≠ 0 ∧ u = .slice none 0 0) ∨ (rerI G S np len fp = 0 ∧ SI w'.heap.size w' u (S.toNat * G.n) (fun i => ((i % G.n : Nat) : Int)))) := by
  have HG := Lib.hid (And.intro hG (And.intro hpv hlen))
  obtain ⟨a, cap, rfl⟩ : ∃ a cap, v = .slice a G.n cap := by obtain ⟨a, _, _, cap, e, _⟩ := hG; exact ⟨a, cap, e⟩
  obtain ⟨pa, pc, rfl⟩ : ∃ a cap, pv = .slice a np cap := by obtain ⟨a, _, _, cap, e, _⟩ := hpv; exact ⟨a, cap, e⟩
  clear hG hpv hlen
  obtain ⟨N, hN⟩ : ∃ N, N = w.heap.size := ⟨_, rfl⟩
  have HN := Lib.hid hN
  go_enter Try.func26, Try.ntmps26
  go_wp2_with fail
  rw [← hN]
  refine wp_world_named fun W0 hW => ?_
  have h0 : Below N w W0 ∧ W0.cell? ⟨N, 0, none⟩ = some (.slice a G.n cap) ∧ W0.cell? ⟨N + 1, 0, none⟩ = some (.int .i64 S) ∧ W0.heap.size = N + 2 := by
    rw [hW, hN]; exact ⟨by (repeat' (first | assumption | exact Below.refl _ _ | refine below_then ?_ (by assumption) | refine below_al ?_ _ | refine below_dr ?_ | refine below_sc ?_ (by simp <;> omega) _)), by simp [go_sem], by simp [go_sem], by simp⟩
  obtain ⟨hb, c0, c1, hz⟩ := h0
  have hbw : Below w.heap.size w W0 := by rw [← hN]; exact hb
  refine (rcheck_walk G (.slice a G.n cap) S (.slice pa np pc) np len fp W0 ((HG.out.1.below hbw).mono hbw.size) hm ((HG.out.2.1.below hbw).mono hbw.size) HG.out.2.2 hnp).mono ?_
  rintro e W1 ⟨rfl, hb1⟩
  have hg1 := below_grown hb1 (Nat.le_refl _) none
  have k0 := hg1.cell c0 (by simp)
  have k1 := hg1.cell c1 (by simp)
  have hbw1 : Below N w W1 := hb.trans (hb1.mono (by omega))
  have hNs : N + 2 ≤ W1.heap.size := by have := hb1.size; omega
  have H1 := Lib.hid hbw1
  clear hW hN hb hb1 c0 c1 hz hbw hg1 hbw1
  by_cases hz : rerI G S np len fp = 0
  · obtain ⟨hok, hcov⟩ := rerI_zero hz
    have hn := ok_size hok
    obtain ⟨s, rfl⟩ : ∃ s : Nat, S = s := ⟨S.toNat, by have := hcov.lo; omega⟩
    obtain ⟨hs24, hsn⟩ := hcov.small
    rw [show ((s : Int)).toNat = s from rfl] at hs24 hsn
    obtain ⟨L, hL⟩ : ∃ L, L = s * G.n := ⟨_, rfl⟩
    have q1 : IntKind.i64.wrap ((s : Int) * (G.n : Int)) = (L : Int) := by rw [IntWalk.i64_in _ (by push_cast at *; omega), hL]; push_cast; rfl
    have hG0 : L = 0 ∨ 0 < G.n := by
      rcases Nat.eq_zero_or_pos G.n with h | h
      · left; rw [hL, h, Nat.mul_zero]
      · exact .inr h
    have hL1 : L ≤ 1000 := by omega
    have HZ := Lib.hid (And.intro hz hL)
    have HK := Lib.hid (And.intro k0 k1)
    rw [hz]
    obtain ⟨j0, hj0, hy0, hy1, hy2⟩ := info_parts info3
    clear hz hok hcov hL hsn hs24
    go_wp2
    obtain ⟨n, hne⟩ : ∃ n, n = G.n := ⟨_, rfl⟩
    rw [← hne] at q1 hG0 HK hn ⊢
    have HNE := Lib.hid hne
    clear hne k0 k1
    go_loopw [7, 8] (fun u i wr => ∃ k : Nat, k ≤ L ∧ i = .int .i64 k ∧ wr.ownsRow W1.heap.size 3 1 u k (nums (fun i => ((i % n : Nat) : Int)) k) ∧ Below W1.heap.size W1 wr) (fun _ i _ => L - (intOf i).toNat)
    case atStart => exact ⟨0, by omega, rfl, World.ownsRow_nil _ _ _ _, Below.refl _ _⟩
    case round =>
      obtain ⟨k, hk, rfl, hO, hbr⟩ := hrel
      obtain ⟨ua, uc, rfl⟩ := ownsRow_form hO
      have HR := Lib.hid (And.intro hO hbr)
      have hgr := below_grown hbr (Nat.le_refl _) none
      have x0 := hgr.cell HK.out.1 (by simp)
      have x1 := hgr.cell HK.out.2 (by simp)
      have hsz := hbr.size
      rcases Nat.lt_or_ge k L with hkL | hkL
      · have x0a := cell_al x0
        have hn0 : (n : Int) ≠ 0 := by omega
        have q0 : ((n : Int) == 0) = false := by simpa using hn0
        obtain ⟨x, hx⟩ : ∃ x, x = k % n := ⟨_, rfl⟩
        have hxn : x < n := by rw [hx]; exact Nat.mod_lt _ (by omega)
        have q3 : (k : Int).tmod (n : Int) = (x : Int) := by rw [hx, Int.tmod_eq_emod_of_nonneg (by omega)]; push_cast; rfl
        have q4 : IntKind.i64.wrap (x : Int) = (x : Int) := IntWalk.i64_in _ (by omega)
        have HX := Lib.hid hx
        have HA := Lib.hid (And.intro (hO.alloc (.cells #[.int .i64 (x : Int)] 3)) (World.news_of_block (cs := #[.int .i64 (x : Int)]) (MapKept.heap_alloc wr (.cells #[.int .i64 (x : Int)] 3)).1))
        clear hO hbr hgr hx
        go_wp2_with (at_builtin; refine (wpList_append_lies _ rfl (.tmp 25) (.tmp 31) 35 rfl W1.heap.size 3 j0 _ 1 8 und35 hj0 hy0 hy1 hy2 rfl (by omega) (.slice ua k uc) k _ rfl HA.out.1 ⟨wr.heap.size, 0, none⟩ 1 1 [.int .i64 (x : Int)] rfl rfl HA.out.2 (by simp [Value.oneCell']) (by omega) (by unfold maxLen; omega) (by omega) (by simp; omega) (wr.heap.size + 1) (by simp) ?_); intro g9 c9 w9 r1 r2 r3 r4; have H9 := Lib.hid (And.intro r1 (And.intro r2 r3)); clear r1 r2 r3 r4)
        refine ⟨⟨k + 1, by omega, by simp, ?_, ?_⟩, by simp [intOf]; omega⟩
        · rw [show nums (fun i => ((i % n : Nat) : Int)) (k + 1) = nums (fun i => ((i % n : Nat) : Int)) k ++ [.int .i64 (x : Int)] by simp [nums, List.range_succ, HX.out]]
          exact H9.out.1
        · exact (HR.out.2.alloc hsz _).grown H9.out.2.1 (by simp; omega) (fun r e => own_ge HR.out.1 e)
      · obtain rfl : k = L := by omega
        clear hO hbr hgr
        go_wp2
        go_ret2
        refine ⟨?_, .slice ua k uc, by rw [HZ.out.1]; rfl, .inr ⟨HZ.out.1, ?_⟩⟩
        · rw [← HN.out]; exact H1.out.trans (HR.out.2.mono (by omega))
        · show SI _ _ _ (s * G.n) _
          rw [← HZ.out.2, ← HNE.out]
          exact SI.of_own HR.out.1
  · have HZ := Lib.hid hz
    obtain ⟨c, hc⟩ : ∃ c, c = rerI G S np len fp := ⟨_, rfl⟩
    rw [← hc] at hz HZ ⊢
    have HC := Lib.hid hc
    have q1 : (c != 0) = true := by simpa using hz
    clear hz hc k0 k1
    go_wp2
    go_ret2
    exact ⟨by rw [← HN.out]; exact H1.out, _, by rw [HC.out]; rfl, .inl ⟨by rw [← HC.out]; exact HZ.out, rfl⟩⟩
end
end Go.Proofs.Ytlckpgahijlmoaa
/- R11.one: a gluing of one part. -/
namespace Go.Proofs.Ytlckpgahijlmoaa
open Go.RowKit Go.Shelf

/-- one part -/
def oneB (G : Gl) : Bool := decide (0 < G.n) && (List.range G.n).all fun u => ptR G u == 0
theorem cnt_pos {r : Nat → Nat} (h0 : r 0 = 0) : ∀ m, 0 < cnt r (m + 1)
  | 0 => by simp [cnt, h0]
  | m + 1 => by have := cnt_pos h0 m; rw [cnt]; omega
theorem ptN_zero {G : Gl} (hok : checkB G = true) {u : Nat} (hu : u < G.n) : ptN G u = 0 ↔ ptR G u = 0 := by
  have h0 : ptR G 0 = 0 := by have := pt_le hok (show 0 < G.n by omega); omega
  unfold ptN
  constructor
  · intro h
    cases hr : ptR G u with
    | zero => rfl
    | succ m => rw [hr] at h; have := cnt_pos h0 m; omega
  · intro h; rw [h]; rfl
theorem oneB_true {G : Gl} (hn : 0 < G.n) (h : ∀ u, u < G.n → ptR G u = 0) : oneB G = true := by
  simp only [oneB, Bool.and_eq_true, decide_eq_true_eq, List.all_eq_true, List.mem_range, beq_iff_eq]
  exact ⟨hn, h⟩
theorem oneB_false {G : Gl} {u : Nat} (hu : u < G.n) (h : ptR G u ≠ 0) : oneB G = false := by
  cases hb : oneB G with
  | false => rfl
  | true =>
    simp only [oneB, Bool.and_eq_true, decide_eq_true_eq, List.all_eq_true, List.mem_range, beq_iff_eq] at hb
    exact absurd (hb.2 u hu) h

set_option maxRecDepth 100000 in
set_option maxHeartbeats 1000000 in
theorem rone_walk (G : Gl) (hok : checkB G = true) (v : Value) (w : World) (hG : GlAt w.heap.size w v G) :
    Calls Try.prog 65 #[.agg #[v]] w fun e w' => e = .returned (.bool (oneB G)) ∧ Below w.heap.size w w' := by
  have hn := ok_size hok
  have HG := Lib.hid (And.intro hok hG)
  obtain ⟨a, cap, rfl⟩ : ∃ a cap, v = .slice a G.n cap := by obtain ⟨a, _, _, cap, e, _⟩ := hG; exact ⟨a, cap, e⟩
  clear hG hok
  obtain ⟨N, hN⟩ : ∃ N, N = w.heap.size := ⟨_, rfl⟩
  have HN := Lib.hid hN
  go_enter Try.func65, Try.ntmps65
  go_wp2_with fail
  rw [← hN]
  refine wp_world_named fun W0 hW => ?_
  have hb : Below N w W0 := by rw [hW, hN]; (repeat' (first | assumption | exact Below.refl _ _ | refine below_then ?_ (by assumption) | refine below_al ?_ _ | refine below_dr ?_ | refine below_sc ?_ (by simp <;> omega) _))
  have hbw : Below w.heap.size w W0 := by rw [← hN]; exact hb
  refine (rparts_walk G HG.out.1 (parts_inv HG.out.1) (.slice a G.n cap) W0 ((HG.out.2.below hbw).mono hbw.size)).mono ?_
  rintro e W1 ⟨d, p, h, rfl, hrow, hA, hd, hb1⟩
  have hh : ∀ u, u < G.n → h u = ptN G u := fun u hu => by
    rw [hA.2 u hu, if_pos (.inl (by have := pt_le HG.out.1 hu; omega))]
  have hcell : ∀ u : Nat, u < G.n → W1.cell? ⟨d, u, none⟩ = some (.int .i64 (h u)) := fun u hu => hrow.cell hu
  have H1 := Lib.hid (And.intro (show Below w.heap.size w W1 from hbw.trans (hb1.mono hbw.size)) (And.intro hh hcell))
  clear hW hN hb hb1 hbw hrow hA hd hh hcell
  obtain ⟨n, hne⟩ : ∃ n, n = G.n := ⟨_, rfl⟩
  rw [← hne] at hn ⊢
  have HNE := Lib.hid hne
  clear hne
  go_wp2
  go_loopw [14] (fun i wr => ∃ k : Nat, k ≤ n ∧ i = .int .i64 k ∧ wr = W1 ∧ ∀ u, u < k → ptR G u = 0) (fun i _ => n - (intOf i).toNat)
  case atStart => exact ⟨0, by omega, rfl, rfl, fun u hu => by omega⟩
  case round =>
    obtain ⟨k, hk, rfl, rfl, hz⟩ := hrel
    have HZ := Lib.hid hz
    clear hz
    rcases Nat.lt_or_ge k n with hkn | hkn
    · obtain ⟨y, hy⟩ : ∃ y, y = h k := ⟨_, rfl⟩
      have c0 := H1.out.2.2 k (by rw [← HNE.out]; exact hkn)
      rw [← hy] at c0
      have hy0 : y = ptN G k := by rw [hy]; exact H1.out.2.1 k (by rw [← HNE.out]; exact hkn)
      have HY := Lib.hid hy0
      clear hy hy0
      by_cases e : y = 0
      · have b1 : (y != 0) = false := by simpa using e
        go_wp2
        refine ⟨⟨k + 1, by omega, by simp, trivial, fun u hu => ?_⟩, by simp [intOf]; omega⟩
        rcases Nat.lt_or_ge u k with h1 | h1
        · exact HZ.out u h1
        · obtain rfl : u = k := by omega
          exact (ptN_zero HG.out.1 (by rw [← HNE.out]; exact hkn)).1 (by rw [← HY.out]; exact e)
      · have b1 : (y != 0) = true := by simpa using e
        go_wp2
        go_ret
        have hkG : k < G.n := by rw [← HNE.out]; exact hkn
        exact ⟨by rw [oneB_false hkG (fun q => e (by rw [HY.out]; exact (ptN_zero HG.out.1 hkG).2 q))]; rfl, H1.out.1⟩
    · obtain rfl : k = n := by omega
      go_wp2
      go_ret
      refine ⟨?_, H1.out.1⟩
      have : oneB G = decide (0 < k) := by
        by_cases h0 : 0 < k
        · rw [oneB_true (by rw [← HNE.out]; exact h0) (fun u hu => HZ.out u (by rw [HNE.out]; exact hu))]
          simp [h0]
        · simp [oneB, ← HNE.out, h0]
      rw [this]; rfl
end Go.Proofs.Ytlckpgahijlmoaa
namespace Go.Proofs.Ytlckpgahijlmoaa

/-- a map of the tetrahedra that commutes with gluings -/
structure Dk (H : Gl) (t1 : Nat) (σ : Nat → Nat) : Prop where
  z : σ 0 = t1
  lt : ∀ u, u < H.n → σ u < H.n
  face : ∀ q f, q < H.n → f < 4 → ¬ H.tet (4 * q + f) < 0 → H.tet (4 * σ q + f) = (σ (H.T (4 * q + f)) : Nat)
/-- what the searches keep: of the list's rows j are done, and f faces of row j -/
structure DV (H : Gl) (n0 t1 : Nat) (qs : List Nat) (h : Nat → Int) (j f : Nat) : Prop where
  met : ∀ u, u < H.n → (h u = -1 ∧ u ∉ qs) ∨ (∃ x : Nat, h u = x ∧ x < H.n ∧ x % n0 = u % n0 ∧ u ∈ qs)
  qlt : ∀ q ∈ qs, q < H.n
  z : h 0 = t1 ∧ 0 ∈ qs
  fo : ∀ σ, Dk H t1 σ → ∀ u, u < H.n → 0 ≤ h u → h u = (σ u : Nat)
  ok : ∀ i q g, qs[i]? = some q → g < 4 → (i < j ∨ (i = j ∧ g < f)) → ¬ H.tet (4 * q + g) < 0 → ∃ x : Nat, h q = x ∧ H.tet (4 * x + g) = h (H.T (4 * q + g)) ∧ 0 ≤ h (H.T (4 * q + g))

theorem DV.start {H : Gl} {n0 t1 : Nat} (ht : t1 < H.n) (hm : t1 % n0 = 0) : DV H n0 t1 [0] (fun i => if i = 0 then (t1 : Int) else -1) 0 0 := by
  refine ⟨fun u hu => ?_, fun q hq => by simp at hq; omega, ⟨rfl, by simp⟩, fun σ hσ u hu h0 => ?_, fun i q g _ _ h => by omega⟩
  · by_cases e : u = 0
    · subst e; exact .inr ⟨t1, rfl, ht, by rw [hm]; simp, by simp⟩
    · exact .inl ⟨if_neg e, by simpa using e⟩
  · by_cases e : u = 0
    · subst e; rw [hσ.z]; rfl
    · rw [if_neg e] at h0; omega
theorem DV.skip {H : Gl} {n0 t1 : Nat} {qs : List Nat} {h : Nat → Int} {j f q : Nat} (d : DV H n0 t1 qs h j f) (hq : qs[j]? = some q) (ht : H.tet (4 * q + f) < 0) : DV H n0 t1 qs h j (f + 1) :=
  ⟨d.met, d.qlt, d.z, d.fo, fun i q' g hi hg ho hn => by
    rcases ho with h1 | ⟨rfl, h1⟩
    · exact d.ok i q' g hi hg (.inl h1) hn
    · by_cases e : g = f
      · subst e
        rw [hq] at hi
        obtain rfl : q = q' := by simpa using hi
        exact absurd ht hn
      · exact d.ok i q' g hi hg (.inr ⟨rfl, by omega⟩) hn⟩
/-- the image of a row's tetrahedron, and of a face's -/
theorem DV.at {H : Gl} {n0 t1 : Nat} {qs : List Nat} {h : Nat → Int} {j f q : Nat} (hO : Over H n0) (d : DV H n0 t1 qs h j f) (hq : qs[j]? = some q) (hf : f < 4) (ht : ¬ H.tet (4 * q + f) < 0) :
    ∃ x y : Nat, h q = x ∧ x < H.n ∧ H.tet (4 * x + f) = y ∧ y < H.n ∧ y % n0 = H.T (4 * q + f) % n0 := by
  have hm := List.mem_of_getElem? hq
  have hqn := d.qlt q hm
  rcases d.met q hqn with ⟨_, h2⟩ | ⟨x, h1, h2, h3, _⟩
  · exact absurd hm h2
  · have hs : ¬ H.tet (4 * x + f) < 0 := fun e => ht ((hO.sgn x q f h2 hqn hf h3).1 e)
    have hl := hO.lt (4 * x + f) (by omega) hs
    exact ⟨x, (H.tet (4 * x + f)).toNat, h1, h2, by omega, hl, hO.mod x q f h2 hqn hf h3 hs⟩
theorem DV.same {H : Gl} {n0 t1 : Nat} {qs : List Nat} {h : Nat → Int} {j f q x : Nat} (d : DV H n0 t1 qs h j f) (hq : qs[j]? = some q) (hx : h q = x) (h0 : 0 ≤ h (H.T (4 * q + f))) (he : h (H.T (4 * q + f)) = H.tet (4 * x + f)) : DV H n0 t1 qs h j (f + 1) :=
  ⟨d.met, d.qlt, d.z, d.fo, fun i q' g hi hg ho hn => by
    rcases ho with h1 | ⟨rfl, h1⟩
    · exact d.ok i q' g hi hg (.inl h1) hn
    · by_cases e : g = f
      · subst e
        rw [hq] at hi
        obtain rfl : q = q' := by simpa using hi
        exact ⟨x, hx, he.symm, h0⟩
      · exact d.ok i q' g hi hg (.inr ⟨rfl, by omega⟩) hn⟩
theorem DV.push {H : Gl} {n0 t1 : Nat} {qs : List Nat} {h : Nat → Int} {j f q x y : Nat} (d : DV H n0 t1 qs h j f) (hq : qs[j]? = some q) (hf : f < 4) (ht : ¬ H.tet (4 * q + f) < 0) (hT : H.T (4 * q + f) < H.n) (hx : h q = x) (hy : H.tet (4 * x + f) = y) (hyn : y < H.n) (hym : y % n0 = H.T (4 * q + f) % n0) (h0 : h (H.T (4 * q + f)) < 0) :
    DV H n0 t1 (qs ++ [H.T (4 * q + f)]) (fun i => if i = H.T (4 * q + f) then (y : Int) else h i) j (f + 1) := by
  have hjl := (List.getElem?_eq_some_iff.1 hq).1
  have hm := List.mem_of_getElem? hq
  obtain ⟨T, hTe⟩ : ∃ T, T = H.T (4 * q + f) := ⟨_, rfl⟩
  rw [← hTe] at hT hym h0 ⊢
  have hne : ∀ u, 0 ≤ h u → u ≠ T := fun u hu e => by subst e; omega
  refine ⟨fun u hu => ?_, fun p hp => ?_, ⟨?_, by simp [d.z.2]⟩, fun σ hσ u hu hu0 => ?_, fun i q' g hi hg ho hn => ?_⟩
  · by_cases e : u = T
    · exact .inr ⟨y, if_pos e, hyn, by rw [e]; exact hym, by simp [e]⟩
    · rcases d.met u hu with ⟨h1, h2⟩ | ⟨z, h1, h2, h3, h4⟩
      · exact .inl ⟨by simp only [if_neg e]; exact h1, by simp [h2, e]⟩
      · exact .inr ⟨z, by simp only [if_neg e]; exact h1, h2, h3, by simp [h4]⟩
  · rcases List.mem_append.1 hp with h1 | h1
    · exact d.qlt p h1
    · simp at h1; omega
  · simp only [if_neg (hne 0 (by rw [d.z.1]; omega))]; exact d.z.1
  · by_cases e : u = T
    · simp only [if_pos e]
      have h1 := d.fo σ hσ q (d.qlt q hm) (by rw [hx]; omega)
      have h2 := hσ.face q f (d.qlt q hm) hf ht
      rw [← hTe, show σ q = x by omega, hy] at h2
      rw [e]; exact h2
    · simp only [if_neg e] at hu0 ⊢
      exact d.fo σ hσ u hu hu0
  · have hql : q' < H.n ∨ True := .inr trivial
    by_cases hij : i = j ∧ g = f
    · obtain ⟨rfl, rfl⟩ := hij
      rw [List.getElem?_append_left hjl, hq] at hi
      obtain rfl : q = q' := by simpa using hi
      exact ⟨x, by simp only [if_neg (hne q (by rw [hx]; omega))]; exact hx, by simp only [← hTe, if_true]; exact hy, by simp only [← hTe, if_true]; omega⟩
    · have hil : i < qs.length := by omega
      rw [List.getElem?_append_left hil] at hi
      obtain ⟨z, h1, h2, h3⟩ := d.ok i q' g hi hg (by omega) hn
      have e1 := hne q' (by rw [h1]; omega)
      have e2 := hne _ h3
      exact ⟨z, by simp only [if_neg e1]; exact h1, by simp only [if_neg e2]; exact h2, by simp only [if_neg e2]; exact h3⟩
theorem DV.clash {H : Gl} {n0 t1 : Nat} {qs : List Nat} {h : Nat → Int} {j f q x : Nat} (d : DV H n0 t1 qs h j f) (hq : qs[j]? = some q) (hf : f < 4) (ht : ¬ H.tet (4 * q + f) < 0) (hT : H.T (4 * q + f) < H.n) (hx : h q = x) (h0 : 0 ≤ h (H.T (4 * q + f))) (he : h (H.T (4 * q + f)) ≠ H.tet (4 * x + f)) (σ : Nat → Nat) : ¬ Dk H t1 σ := fun hσ => by
  have hm := List.mem_of_getElem? hq
  have h1 := d.fo σ hσ q (d.qlt q hm) (by rw [hx]; omega)
  have h2 := hσ.face q f (d.qlt q hm) hf ht
  rw [show σ q = x by omega] at h2
  exact he (by rw [h2]; exact d.fo σ hσ _ hT h0)
theorem DV.next {H : Gl} {n0 t1 : Nat} {qs : List Nat} {h : Nat → Int} {j : Nat} (d : DV H n0 t1 qs h j 4) : DV H n0 t1 qs h (j + 1) 0 :=
  ⟨d.met, d.qlt, d.z, d.fo, fun i q g hi hg ho => d.ok i q g hi hg (by omega)⟩
/-- in a gluing of one part all are met -/
theorem DV.all {H : Gl} (hok : checkB H = true) (h1 : oneB H = true) {n0 t1 : Nat} {qs : List Nat} {h : Nat → Int} (d : DV H n0 t1 qs h qs.length 0) {u : Nat} (hu : u < H.n) : u ∈ qs := by
  simp only [oneB, Bool.and_eq_true, decide_eq_true_eq, List.all_eq_true, List.mem_range, beq_iff_eq] at h1
  have step : ∀ k, k < 4 * H.n → ¬ H.tet k < 0 → k / 4 ∈ qs → H.T k ∈ qs := fun k hk ht hm => by
    obtain ⟨i, hi, he⟩ := List.getElem_of_mem hm
    have hT := (ok_face hok hk ht).2.1
    have hk4 : 4 * (k / 4) + k % 4 = k := by omega
    obtain ⟨x, _, _, h3⟩ := d.ok i (k / 4) (k % 4) (by rw [List.getElem?_eq_getElem hi, he]) (by omega) (.inl hi) (by rw [hk4]; exact ht)
    rw [hk4] at h3
    rcases d.met _ hT with ⟨q1, _⟩ | ⟨_, _, _, _, q4⟩
    · omega
    · exact q4
  have hc := pt_closed hok (p := fun u => u ∈ qs) (fun k hk ht => ⟨step k hk ht, fun hm => by
    obtain ⟨a1, a2, a3, a4, a5, a6, a7⟩ := tb_facts hok hk ht
    have := step (tb H k) a1 a2 (by rw [a5]; exact hm)
    rwa [a7] at this⟩) (4 * H.n) (Nat.le_refl _) u hu
  rw [show lp (ptF H) id (4 * H.n) u = ptR H u from rfl, h1.2 u hu] at hc
  exact hc.2 d.z.2
theorem DV.done {H : Gl} (hok : checkB H = true) (h1 : oneB H = true) {n0 t1 : Nat} {qs : List Nat} {h : Nat → Int} (d : DV H n0 t1 qs h qs.length 0) : Dk H t1 (fun u => (h u).toNat) := by
  refine ⟨by simp [d.z.1], fun u hu => ?_, fun q f hq hf ht => ?_⟩
  · rcases d.met u hu with ⟨_, q2⟩ | ⟨x, q1, q2, _, _⟩
    · exact absurd (d.all hok h1 hu) q2
    · simp only [q1]; simpa using q2
  · obtain ⟨i, hi, he⟩ := List.getElem_of_mem (d.all hok h1 hq)
    obtain ⟨x, q1, q2, q3⟩ := d.ok i q f (by rw [List.getElem?_eq_getElem hi, he]) hf (.inl hi) ht
    simp only [q1, Int.toNat_natCast]
    rw [q2]; omega
/-- it is a permutation -/
theorem Dk.perm {H : Gl} (hok : checkB H = true) (h1 : oneB H = true) {n0 t1 : Nat} (hO : Over H n0) {σ : Nat → Nat} (d : Dk H t1 σ) (hmod : ∀ u, u < H.n → σ u % n0 = u % n0) : (∀ y, y < H.n → ∃ x, x < H.n ∧ σ x = y) := by
  simp only [oneB, Bool.and_eq_true, decide_eq_true_eq, List.all_eq_true, List.mem_range, beq_iff_eq] at h1
  have step : ∀ k, k < 4 * H.n → ¬ H.tet k < 0 → (∃ x, x < H.n ∧ σ x = k / 4) → ∃ x, x < H.n ∧ σ x = H.T k := fun k hk ht ⟨x, hx, he⟩ => by
    have hk4 : 4 * (k / 4) + k % 4 = k := by omega
    have hs : ¬ H.tet (4 * x + k % 4) < 0 := fun e => ht (by
      have := (hO.sgn x (k / 4) (k % 4) hx (by omega) (by omega) (by rw [← he]; exact (hmod x hx).symm)).1 e
      rwa [hk4] at this)
    have hf := d.face x (k % 4) hx (by omega) hs
    rw [he, hk4] at hf
    exact ⟨H.T (4 * x + k % 4), (ok_face hok (by omega) hs).2.1, by have := (ok_face hok hk ht).1; omega⟩
  have hc : ∀ y, y < H.n → ((∃ x, x < H.n ∧ σ x = y) ↔ (∃ x, x < H.n ∧ σ x = 0)) := fun y hy => by
    have := pt_closed hok (p := fun y => ∃ x, x < H.n ∧ σ x = y) (fun k hk ht => ⟨step k hk ht, fun hm => by
      obtain ⟨a1, a2, a3, a4, a5, a6, a7⟩ := tb_facts hok hk ht
      have := step (tb H k) a1 a2 (by rw [a5]; exact hm)
      rwa [a7] at this⟩) (4 * H.n) (Nat.le_refl _) y hy
    rw [show lp (ptF H) id (4 * H.n) y = ptR H y from rfl, h1.2 y hy] at this
    exact this
  exact fun y hy => (hc y hy).2 ((hc (σ 0) (d.lt 0 h1.1)).1 ⟨0, h1.1, rfl⟩)
theorem inj_of_surj (n : Nat) (σ : Nat → Nat) (hs : ∀ y, y < n → ∃ x, x < n ∧ σ x = y) : ∀ a b, a < n → b < n → σ a = σ b → a = b := by
  let ρ : Nat → Nat := fun y => if h : y < n then Classical.choose (hs y h) else 0
  have hρ : ∀ y, y < n → ρ y < n ∧ σ (ρ y) = y := fun y hy => by
    have := Classical.choose_spec (hs y hy)
    simp only [ρ, dif_pos hy]; exact this
  have hsr := surj_of_inj n ρ (fun y hy => (hρ y hy).1) (fun i j hi hj e => by
    have h1 := (hρ i hi).2
    have h2 := (hρ j hj).2
    rw [e, h2] at h1; exact h1.symm)
  intro a b ha hb e
  obtain ⟨c, hc, rfl⟩ := hsr a ha
  obtain ⟨d, hd, rfl⟩ := hsr b hb
  rw [(hρ c hc).2, (hρ d hd).2] at e
  rw [e]
end Go.Proofs.Ytlckpgahijlmoaa
