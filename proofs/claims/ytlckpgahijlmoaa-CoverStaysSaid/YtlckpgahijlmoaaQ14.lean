/- cover's small functions: inverse, frame, need. No condition. -/
import Derived.Test.YtlckpgahijlmoaaQ11
import Derived.Test.YtlckpgahijlmoaaQ12
/- cover's small functions: isPerm, identity, inverse, frame. No condition. -/
namespace Go.Proofs.Ytlckpgahijlmoaa
open Go.RowKit Go.Shelf Go.Maps

theorem und182 : Try.prog.underlying 182 = some (.map 3 4) := by kernel_rfl
theorem zero4 (w : World) : (zeroValue 4).run Try.prog w = .ok (.bool false) w := by kernel_rfl

/-- a slice of numbers in memory -/
def SI (B : Nat) (W : World) (v : Value) (n : Nat) (f : Nat → Int) : Prop :=
  ∃ a b off cap, v = .slice a n cap ∧ (0 < n → a = some ⟨b, off, none⟩ ∧ b < B) ∧ ∀ k, k < n → W.cell? ⟨b, off + k, none⟩ = some (.int .i64 (f k))
theorem SI.below {B : Nat} {W W' : World} {v : Value} {n : Nat} {f : Nat → Int} (h : SI B W v n f) (hb : Below B W W') : SI B W' v n f := by
  obtain ⟨a, b, off, cap, rfl, h1, h2⟩ := h
  exact ⟨a, b, off, cap, rfl, h1, fun k hk => (hb.cell (p := ⟨b, off + k, none⟩) (h1 (by omega)).2).trans (h2 k hk)⟩
theorem SI.mono {B B' : Nat} {W : World} {v : Value} {n : Nat} {f : Nat → Int} (h : SI B W v n f) (hB : B ≤ B') : SI B' W v n f := by
  obtain ⟨a, b, off, cap, rfl, h1, h2⟩ := h
  exact ⟨a, b, off, cap, rfl, fun k => ⟨(h1 k).1, by have := (h1 k).2; omega⟩, h2⟩
theorem SI.congr {B : Nat} {W : World} {v : Value} {n : Nat} {f g : Nat → Int} (h : SI B W v n f) (e : ∀ i, i < n → f i = g i) : SI B W v n g := by
  obtain ⟨a, b, off, cap, rfl, h1, h2⟩ := h
  exact ⟨a, b, off, cap, rfl, h1, fun k hk => by rw [← e k hk]; exact h2 k hk⟩
theorem SI.of_row {B : Nat} {W : World} {d n : Nat} {f : Nat → Int} (h : IntRow W d n f) (hd : d < B) : SI B W (.slice (some ⟨d, 0, none⟩) n n) n f :=
  ⟨_, d, 0, _, rfl, fun _ => ⟨rfl, hd⟩, fun k hk => by rw [Nat.zero_add]; exact h.cell hk⟩

/-- what isPerm has met -/
def permD (f : Nat → Int) (k : Nat) (a : Nat) : Option Bool := if (List.range k).any (fun j => f j == (a : Int)) then some true else none
/-- the first k entries are good -/
def permP (f : Nat → Int) (n : Int) (k : Nat) : Bool := (List.range k).all fun i => decide (0 ≤ f i) && decide (f i < n) && !(List.range i).any (fun j => f j == f i)
/-- a permutation of n numbers -/
def permB (l : Nat) (f : Nat → Int) (n : Int) : Bool := permP f n l && ((l : Int) == n)
theorem permP_succ (f : Nat → Int) (n : Int) (k : Nat) : permP f n (k + 1) = (permP f n k && (decide (0 ≤ f k) && decide (f k < n) && !(List.range k).any (fun j => f j == f k))) := by
  simp [permP, List.range_succ, List.all_append]
theorem permP_le {f : Nat → Int} {n : Int} {k l : Nat} (h : permP f n l = true) (hk : k ≤ l) : permP f n k = true := by
  simp only [permP, List.all_eq_true, List.mem_range] at h ⊢
  exact fun i hi => h i (by omega)
theorem permB_false {f : Nat → Int} {n : Int} {l k : Nat} (hk : k < l) (h : (decide (0 ≤ f k) && decide (f k < n) && !(List.range k).any (fun j => f j == f k)) = false) : permB l f n = false := by
  cases hp : permB l f n with
  | false => rfl
  | true =>
    simp only [permB, Bool.and_eq_true] at hp
    have := permP_le (k := k + 1) hp.1 (by omega)
    rw [permP_succ, h] at this
    simp at this
theorem permD_succ (f : Nat → Int) (k a : Nat) (hk : f k = (a : Int)) (x : Nat) : (if x = a then some true else permD f k x) = permD f (k + 1) x := by
  unfold permD
  rw [List.range_succ, List.any_append]
  by_cases e : x = a
  · subst e; simp [hk]
  · have : ((a : Int) == (x : Int)) = false := by simp; omega
    simp [e, hk, this]

set_option maxRecDepth 20000 in
set_option maxHeartbeats 1000000 in
theorem isPerm_walk (l : Nat) (f : Nat → Int) (n : Nat) (hl : l < 4611686018427387904) (hn : n < 4611686018427387904) (B : Nat) (w : World) (hB : B ≤ w.heap.size) (v : Value) (hv : SI B w v l f) :
    Calls Try.prog 71 #[v, .int .i64 (n : Int)] w fun e w' => e = .returned (.bool (permB l f n)) ∧ Below w.heap.size w w' := by
  have hmm := @run_makeMap Try.prog
  obtain ⟨a, b, off, cap, rfl, ha, hc⟩ := hv
  have HC := Lib.hid (And.intro ha hc); clear ha hc
  go_enter Try.func71, Try.ntmps71
  go_wp2
  refine wp_named fun W1 hW => ?_
  have h0 : MapIs W1 3 (fun a : Nat => a < 9223372036854775808) (fun a : Nat => Value.int .i64 (a : Int)) Value.bool w.heap.size 0 (permD f 0) := by
    rw [hW]; exact (MapIs.made w).congr (fun a => by simp [permD])
  have hB1 : Below w.heap.size w W1 := by rw [hW]; (repeat' (first | assumption | exact Below.refl _ _ | refine below_then ?_ (by assumption) | refine below_al ?_ _ | refine below_dr ?_ | refine below_sc ?_ (by simp <;> omega) _))
  clear hW hmm
  generalize hN : w.heap.size = N at *
  have H := Lib.hid (And.intro h0 hB1); clear h0 hB1
  go_loopw [11] (fun i wr => ∃ k nn : Nat, k ≤ l ∧ i = .int .i64 k ∧ permP f n k = true ∧ MapIs wr 3 (fun a : Nat => a < 9223372036854775808) (fun a : Nat => Value.int .i64 (a : Int)) Value.bool N nn (permD f k) ∧ Below N w wr) (fun i _ => l - (intOf i).toNat)
  case atStart => exact ⟨0, 0, by omega, rfl, rfl, H.out.1, H.out.2⟩
  case round =>
    clear H
    obtain ⟨k, nn, hk, rfl, hp, hm, hb⟩ := hrel
    rcases Nat.lt_or_ge k l with hkl | hkl
    · obtain ⟨rfl, hbB⟩ := HC.out.1 (by omega)
      have hx := (hb.cell (p := ⟨b, off + k, none⟩) (by show b < N; omega)).trans (HC.out.2 k hkl)
      obtain ⟨x, hxe⟩ : ∃ x, x = f k := ⟨_, rfl⟩
      rw [← hxe] at hx
      have k0 : 0 ≤ (k : Int) := by omega
      have kl : (k : Int) < (l : Int) := by omega
      have HK := Lib.hid (And.intro hp (And.intro hm (And.intro hb hxe)))
      clear hp hm hb hxe
      by_cases h0 : x < 0
      · go_wp2
        go_ret
        refine ⟨?_, hN ▸ HK.out.2.2.1⟩
        rw [permB_false hkl (by have := HK.out.2.2.2; simp; omega)]; rfl
      · by_cases h1 : (n : Int) ≤ x
        · go_wp2
          go_ret
          refine ⟨?_, hN ▸ HK.out.2.2.1⟩
          rw [permB_false hkl (by have := HK.out.2.2.2; simp; omega)]; rfl
        · obtain ⟨y, rfl⟩ : ∃ y : Nat, x = (y : Int) := ⟨x.toNat, by omega⟩
          have hlk := HK.out.2.1.look codes_int und182 (zero4 _) false y (by omega)
          simp only [Bool.false_eq_true, if_false] at hlk
          cases hD : (permD f k y).elim (Value.bool false) Value.bool with
          | bool q =>
            rw [hD] at hlk
            have HD := Lib.hid hD; clear hD
            cases q with
            | true =>
              go_wp2
              go_ret
              refine ⟨?_, hN ▸ HK.out.2.2.1⟩
              have hD := HD.out
              unfold permD at hD
              split at hD
              · next he =>
                rw [permB_false hkl (by rw [← HK.out.2.2.2, he]; simp)]; rfl
              · simp at hD
            | false =>
              go_wp2_with (first | refine wpList_put (a := y) (c := true) rfl 182 (.tmp 27) (.tmp 28) (.const (.bool true)) rfl codes_int und182 HK.out.2.1 (by omega) rfl rfl rfl ?_; intro W3 h1 h2 h3; have H3 := Lib.hid (And.intro h1 (And.intro h2 h3)); clear h1 h2 h3)
              go_roundw
              case rel =>
                refine ⟨k + 1, _, by omega, rfl, ?_, (H3.out.1).congr (fun z => ?_), ?_⟩
                · have hD := HD.out
                  unfold permD at hD
                  rw [permP_succ, HK.out.1, ← HK.out.2.2.2]
                  split at hD
                  · simp at hD
                  · next he => simp only [Bool.not_eq_true] at he; rw [he]; simp; omega
                · exact permD_succ f k y HK.out.2.2.2.symm z
                · exact HK.out.2.2.1.grown H3.out.2.1 (by have := HK.out.2.2.1.size; omega) (fun k hk => by cases hk; omega)
              case measure => simp [intOf]; omega
          | _ => cases hq : permD f k y <;> simp [hq] at hD
    · obtain rfl : k = l := by omega
      have HK := Lib.hid (And.intro hp (And.intro hm hb)); clear hp hm hb
      go_wp2
      go_ret
      exact ⟨by rw [permB, HK.out.1, Bool.true_and]; rfl, hN ▸ HK.out.2.2⟩

set_option maxRecDepth 20000 in
set_option maxHeartbeats 1000000 in
theorem identity_walk (n : Nat) (hn : n ≤ 1000000) (w : World) :
    Calls Try.prog 42 #[.int .i64 (n : Int)] w fun e w' => e = .returned (.slice (some ⟨w.heap.size, 0, none⟩) n n) ∧ IntRow w' w.heap.size n (fun i => (i : Int)) ∧ Below w.heap.size w w' := by
  have hmk := run_make_row' (P := Try.prog) 35 3 (.int .i64 0) 8 und35 info3 rfl .i64 .i64 n (by omega) (by omega)
  go_enter Try.func42, Try.ntmps42
  go_wp2
  refine wp_named fun W1 hW => ?_
  have hr : IntRow W1 w.heap.size n (fun i => if i < 0 then (i : Int) else 0) := by
    rw [hW]; exact (World.rowIs_made w (.int .i64 0) n 3).congr (fun i _ => by simp)
  have hb : Below w.heap.size w W1 := by rw [hW]; (repeat' (first | assumption | exact Below.refl _ _ | refine below_then ?_ (by assumption) | refine below_al ?_ _ | refine below_dr ?_ | refine below_sc ?_ (by simp <;> omega) _))
  clear hmk hW
  generalize hN : w.heap.size = N at *
  have H1 := Lib.hid (And.intro hr hb); clear hr hb
  go_loopw [9] (fun i wr => ∃ k : Nat, k ≤ n ∧ i = .int .i64 k ∧ IntRow wr N n (fun i => if i < k then (i : Int) else 0) ∧ Below N w wr) (fun i _ => n - (intOf i).toNat)
  case atStart => exact ⟨0, by omega, rfl, H1.out.1, H1.out.2⟩
  case round =>
    clear H1
    obtain ⟨k, hk, rfl, hr, hb⟩ := hrel
    rcases Nat.lt_or_ge k n with hkn | hkn
    · have hc := hr.cell hkn
      have hf := hr.frozen k
      have HK := Lib.hid (And.intro hr hb); clear hr hb
      go_wp2
      go_roundw
      case rel =>
        refine ⟨k + 1, by omega, rfl, (HK.out.1.set k _).congr (fun i hi => ?_), HK.out.2.setCell (Nat.le_refl _) _⟩
        by_cases e : i = k
        · simp [e]
        · have : i < k + 1 ↔ i < k := by omega
          simp [e, this]
      case measure => simp [intOf]; omega
    · obtain rfl : k = n := by omega
      have HK := Lib.hid (And.intro hr hb); clear hr hb
      go_wp2
      go_ret
      rw [hN]
      exact ⟨rfl, HK.out.1.congr (fun i hi => by simp [hi]), HK.out.2⟩
end Go.Proofs.Ytlckpgahijlmoaa
namespace Go.Proofs.Ytlckpgahijlmoaa
open Go.RowKit Go.Shelf Go.Maps

/-- the inverse after k steps -/
def invP (f : Nat → Int) : Nat → Nat → Int
  | 0 => fun _ => 0
  | k + 1 => fun x => if (x : Int) = f k then (k : Int) else invP f k x
theorem permB_range {l : Nat} {f : Nat → Int} {n : Int} (h : permB l f n = true) : (l : Int) = n ∧ ∀ i, i < l → 0 ≤ f i ∧ f i < n := by
  simp only [permB, Bool.and_eq_true, beq_iff_eq, permP, List.all_eq_true, List.mem_range, decide_eq_true_eq] at h
  exact ⟨h.2, fun i hi => ⟨(h.1 i hi).1.1, (h.1 i hi).1.2⟩⟩

set_option maxRecDepth 20000 in
set_option maxHeartbeats 1000000 in
theorem invList_walk (l : Nat) (f : Nat → Int) (hp : permB l f l = true) (hl : l ≤ 1000000) (B : Nat) (w : World) (hB : B ≤ w.heap.size) (v : Value) (hv : SI B w v l f) :
    Calls Try.prog 116 #[v] w fun e w' => e = .returned (.slice (some ⟨w.heap.size, 0, none⟩) l l) ∧ IntRow w' w.heap.size l (invP f l) ∧ Below w.heap.size w w' := by
  have hmk := run_make_row' (P := Try.prog) 35 3 (.int .i64 0) 8 und35 info3 rfl .i64 .i64 l (by omega) (by omega)
  have HP := Lib.hid (permB_range hp).2; clear hp
  have HV := Lib.hid hv
  obtain ⟨a, b, off, cap, rfl, ha, hc⟩ := hv
  have HC := Lib.hid (And.intro ha hc); clear ha hc
  go_enter Try.func116, Try.ntmps116
  go_wp2
  refine wp_named fun W1 hW => ?_
  have hr : IntRow W1 w.heap.size l (invP f 0) := by
    rw [hW]; exact (World.rowIs_made w (.int .i64 0) l 3).congr (fun i _ => by simp [invP])
  have hb : Below w.heap.size w W1 := by rw [hW]; (repeat' (first | assumption | exact Below.refl _ _ | refine below_then ?_ (by assumption) | refine below_al ?_ _ | refine below_dr ?_ | refine below_sc ?_ (by simp <;> omega) _))
  clear hmk hW
  generalize hN : w.heap.size = N at *
  have H1 := Lib.hid (And.intro hr hb); clear hr hb
  go_loopw [11] (fun i wr => ∃ k : Nat, k ≤ l ∧ i = .int .i64 k ∧ IntRow wr N l (invP f k) ∧ Below N w wr) (fun i _ => l - (intOf i).toNat)
  case atStart => exact ⟨0, by omega, rfl, H1.out.1, H1.out.2⟩
  case round =>
    clear H1
    obtain ⟨k, hk, rfl, hr, hb⟩ := hrel
    rcases Nat.lt_or_ge k l with hkn | hkn
    · obtain ⟨rfl, hbB⟩ := HC.out.1 (by omega)
      have hx := (hb.cell (p := ⟨b, off + k, none⟩) (by show b < N; omega)).trans (HC.out.2 k hkn)
      obtain ⟨p1, p2⟩ := HP.out k hkn
      obtain ⟨y, hy⟩ : ∃ y : Nat, f k = (y : Int) := ⟨(f k).toNat, by omega⟩
      rw [hy] at hx
      have hyl : y < l := by omega
      have hc := hr.cell hyl
      have hf := hr.frozen y
      have k0 : 0 ≤ (k : Int) := by omega
      have kl : (k : Int) < (l : Int) := by omega
      have y0 : 0 ≤ (y : Int) := by omega
      have yl : (y : Int) < (l : Int) := by omega
      have HK := Lib.hid (And.intro hr (And.intro hb hy)); clear hr hb hy p1 p2
      generalize invP f k y = z at *
      go_wp2
      go_roundw
      case rel =>
        refine ⟨k + 1, by omega, rfl, (HK.out.1.set y _).congr (fun i hi => ?_), HK.out.2.1.setCell (Nat.le_refl _) _⟩
        simp only [invP, HK.out.2.2]
        by_cases e : i = y
        · subst e; simp
        · have : ¬ (i : Int) = (y : Int) := by omega
          simp [e, this]
      case measure => simp [intOf]; omega
    · obtain rfl : k = l := by omega
      have HK := Lib.hid (And.intro hr hb); clear hr hb
      go_wp2
      go_ret
      rw [hN]
      exact ⟨rfl, HK.out.1, HK.out.2⟩

theorem grown_any {A B : World} (h : A.grownBy B none) (row : Option Nat) : A.grownBy B row := ⟨h.os, h.tape, h.output, h.size, fun k hk _ => h.block k hk (by simp)⟩
/-- the labelling of the tetrahedron after k steps -/
def frAt (e k : Nat) : Nat := 2 + ((List.range k).filter (fun j => j != pA e && j != pB e)).length
def frC (e : Nat) : Nat → Nat → Nat
  | 0 => fun i => if i = 0 then pA e else if i = 1 then pB e else 0
  | k + 1 => if k ≠ pA e ∧ k ≠ pB e then fun i => if i = frAt e k then k else frC e k i else frC e k
theorem frAt_lt : ∀ e, e < 6 → ∀ k, k < 4 → k ≠ pA e → k ≠ pB e → frAt e k < 4 := by decide
theorem frAt_succ (e k : Nat) : frAt e (k + 1) = if k ≠ pA e ∧ k ≠ pB e then frAt e k + 1 else frAt e k := by
  unfold frAt
  rw [List.range_succ, List.filter_append]
  by_cases h : k ≠ pA e ∧ k ≠ pB e
  · simp [h.1, h.2]; omega
  · rw [if_neg h]
    have : (k != pA e && k != pB e) = false := by
      cases h2 : (k != pA e && k != pB e) with
      | false => rfl
      | true => simp at h2; exact absurd h2 h
    simp [this]
def frS (t e : Nat) : Nat × Nat × Nat × Nat × Nat := (t, frC e 4 0, frC e 4 1, frC e 4 2, frC e 4 3)
theorem frC_lt : ∀ e, e < 6 → (frC e 4 0 < 4 ∧ frC e 4 1 < 4 ∧ frC e 4 2 < 4 ∧ frC e 4 3 < 4) ∧ (frC e 4 0 ≠ frC e 4 1 ∧ frC e 4 0 ≠ frC e 4 2 ∧ frC e 4 0 ≠ frC e 4 3 ∧ frC e 4 1 ≠ frC e 4 2 ∧ frC e 4 1 ≠ frC e 4 3 ∧ frC e 4 2 ≠ frC e 4 3) := by decide

set_option maxRecDepth 20000 in
set_option maxHeartbeats 1000000 in
theorem frame_walk (e : Nat) (he : e < 6) (w : World) :
    Calls Try.prog 118 #[.int .i64 (e : Int)] w fun x w' => x = .returned (.agg #[.int .i64 (frC e 4 0 : Nat), .int .i64 (frC e 4 1 : Nat), .int .i64 (frC e 4 2 : Nat), .int .i64 (frC e 4 3 : Nat)]) ∧ Below w.heap.size w w' := by
  go_enter Try.func118, Try.ntmps118
  go_wp2_with fail
  refine (Ends_walk e he _).mono ?_
  rintro x W1 ⟨rfl, hb⟩
  have z1 : ∀ o, o < 4 → W1.cell? ⟨w.heap.size, o, none⟩ = some (.int .i64 0) := fun o ho => (hb.cell (p := ⟨w.heap.size, o, none⟩) (by simp)).trans (by
    obtain rfl | rfl | rfl | rfl : o = 0 ∨ o = 1 ∨ o = 2 ∨ o = 3 := by omega
    all_goals simp [go_sem])
  have zf : ∀ o, W1.frozen? ⟨w.heap.size, o, none⟩ = false := fun o => (hb.frozen (p := ⟨w.heap.size, o, none⟩) (by simp)).trans (by simp [go_sem])
  have hbw : Below w.heap.size w W1 := by (repeat' (first | assumption | exact Below.refl _ _ | refine below_then ?_ (by assumption) | refine below_al ?_ _ | refine below_dr ?_ | refine below_sc ?_ (by simp <;> omega) _))
  have hs := hb.size
  simp at hs
  have HZ := Lib.hid (And.intro z1 (And.intro zf hbw))
  clear z1 zf hbw hb
  go_wp2
  refine wp_named fun W2 hW => ?_
  have hr : W2.rowIs W1.heap.size 85 4 (fun i => .int .i64 (frC e 0 i : Nat)) := by
    rw [hW]
    refine World.rowIs_alloc W1 #[.int .i64 (pA e : Nat), .int .i64 (pB e : Nat), .int .i64 0, .int .i64 0] 85 _ (fun i hi => ?_)
    have : i = 0 ∨ i = 1 ∨ i = 2 ∨ i = 3 := by simp at hi; omega
    rcases this with rfl | rfl | rfl | rfl <;> simp [frC]
  have hg : W1.grownBy W2 none := by rw [hW]; exact World.grownBy_alloc W1 _ none
  clear hW
  generalize hM : W1.heap.size = M at *
  have H2 := Lib.hid (And.intro hr hg); clear hr hg
  go_loopw [16, 6] (fun i a wr => ∃ k : Nat, k ≤ 4 ∧ i = .int .i64 k ∧ a = .int .i64 (frAt e k : Nat) ∧ wr.rowIs M 85 4 (fun i => .int .i64 (frC e k i : Nat)) ∧ W1.grownBy wr (some M)) (fun i _ _ => 4 - (intOf i).toNat)
  case atStart => exact ⟨0, by omega, rfl, by simp [frAt], H2.out.1, grown_any H2.out.2 _⟩
  case round =>
    clear H2
    obtain ⟨k, hk, rfl, rfl, hr, hg⟩ := hrel
    rcases Nat.lt_or_ge k 4 with hk4 | hk4
    · have hlt := frAt_lt e he k hk4
      have hsu := frAt_succ e k
      have hcc : ∀ i, frC e (k + 1) i = if k ≠ pA e ∧ k ≠ pB e then (if i = frAt e k then k else frC e k i) else frC e k i := fun i => by
        show (if k ≠ pA e ∧ k ≠ pB e then fun i => if i = frAt e k then k else frC e k i else frC e k) i = _
        split <;> rfl
      generalize hA : frAt e k = A at *
      have HK := Lib.hid (And.intro hr (And.intro hg (And.intro hsu hcc)))
      clear hg hsu hcc
      by_cases h1 : k = pA e
      · have q1 : ((k : Int) != (pA e : Int)) = false := by rw [← h1]; simp
        have HH := Lib.hid h1
        generalize pA e = PA at *
        generalize pB e = PB at *
        clear h1 hlt hr
        go_wp2
        go_roundw
        case rel =>
          obtain ⟨r1, r2, r3, r4⟩ := HK.out
          rw [if_neg (fun h => h.1 HH.out)] at r3
          exact ⟨k + 1, by omega, rfl, by rw [r3], r1.congr (fun i _ => by rw [r4, if_neg (fun h => h.1 HH.out)]), r2⟩
        case measure => simp [intOf]; omega
      · by_cases h2 : k = pB e
        · have q1 : ((k : Int) != (pA e : Int)) = true := by simp; omega
          have q2 : ((k : Int) != (pB e : Int)) = false := by rw [← h2]; simp
          have HH := Lib.hid h2
          generalize pA e = PA at *
          generalize pB e = PB at *
          clear h1 h2 hlt hr
          go_wp2
          go_roundw
          case rel =>
            obtain ⟨r1, r2, r3, r4⟩ := HK.out
            rw [if_neg (fun h => h.2 HH.out)] at r3
            exact ⟨k + 1, by omega, rfl, by rw [r3], r1.congr (fun i _ => by rw [r4, if_neg (fun h => h.2 HH.out)]), r2⟩
          case measure => simp [intOf]; omega
        · have q1 : ((k : Int) != (pA e : Int)) = true := by simp; omega
          have q2 : ((k : Int) != (pB e : Int)) = true := by simp; omega
          have hA4 := hlt h1 h2
          have HH := Lib.hid (And.intro h1 h2)
          have hc := hr.cell hA4
          have hf := hr.frozen A
          have A0 : 0 ≤ (A : Int) := by omega
          have A4 : (A : Int) < 4 := by omega
          generalize pA e = PA at *
          generalize pB e = PB at *
          clear h1 h2 hlt hr
          go_wp2
          go_roundw
          case rel =>
            obtain ⟨r1, r2, r3, r4⟩ := HK.out
            rw [if_pos HH.out] at r3
            refine ⟨k + 1, by omega, rfl, by rw [r3]; rfl, (r1.set A _).congr (fun i _ => ?_), grownBy_trans r2 (grownBy_setCell _ _ _ _)⟩
            rw [r4, if_pos HH.out]
            by_cases q : i = A <;> simp [q]
          case measure => simp [intOf]; omega
    · obtain rfl : k = 4 := by omega
      have e0 := hr.cell (i := 0) (by omega)
      have e1 := hr.cell (i := 1) (by omega)
      have e2 := hr.cell (i := 2) (by omega)
      have e3 := hr.cell (i := 3) (by omega)
      have z := fun o ho => hg.cell (HZ.out.1 o ho) (by simp; omega)
      have zf : ∀ o, wr.frozen? ⟨w.heap.size, o, none⟩ = false := fun o => (hg.frozen_far ⟨w.heap.size, o, none⟩ (by show w.heap.size < _; omega) (by simp; omega)).trans (HZ.out.2.1 o)
      have z0 := z 0 (by omega)
      have z1 := z 1 (by omega)
      have z2 := z 2 (by omega)
      have z3 := z 3 (by omega)
      have HB := Lib.hid (below_grownBy HZ.out.2.2 hg (by omega) (by omega))
      clear z hr hg
      obtain ⟨v0, hv0⟩ : ∃ v, v = ((frC e 4 0 : Nat) : Int) := ⟨_, rfl⟩
      rw [← hv0] at e0
      obtain ⟨v1, hv1⟩ : ∃ v, v = ((frC e 4 1 : Nat) : Int) := ⟨_, rfl⟩
      rw [← hv1] at e1
      obtain ⟨v2, hv2⟩ : ∃ v, v = ((frC e 4 2 : Nat) : Int) := ⟨_, rfl⟩
      rw [← hv2] at e2
      obtain ⟨v3, hv3⟩ : ∃ v, v = ((frC e 4 3 : Nat) : Int) := ⟨_, rfl⟩
      rw [← hv3] at e3
      have HV := Lib.hid (And.intro hv0 (And.intro hv1 (And.intro hv2 hv3)))
      clear hv0 hv1 hv2 hv3
      go_wp2
      refine bodyPost_ret (v := .agg #[.int .i64 v0, .int .i64 v1, .int .i64 v2, .int .i64 v3]) (by simp [results, Try.results118, go_sem, *]) rfl ⟨by rw [← HV.out.1, ← HV.out.2.1, ← HV.out.2.2.1, ← HV.out.2.2.2], ?_⟩
      exact (((HB.out.setCell (Nat.le_refl _) _).setCell (Nat.le_refl _) _).setCell (Nat.le_refl _) _).setCell (Nat.le_refl _) _
end Go.Proofs.Ytlckpgahijlmoaa
