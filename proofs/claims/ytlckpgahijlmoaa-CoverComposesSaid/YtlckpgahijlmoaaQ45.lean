/- R11.shaped: permutations of the sheets for all classes of triangles. -/
import Derived.Test.YtlckpgahijlmoaaQ44
import Derived.Test.YtlckpgahijlmoaaQ13
import Derived.Test.YtlckpgahijlmoaaQ38
namespace Go.Proofs.Ytlckpgahijlmoaa
open Go.RowKit Go.Shelf

/-- whether it holds -/
noncomputable def boolOf (P : Prop) : Bool := @decide P (Classical.propDecidable P)
theorem boolOf_true {P : Prop} (h : P) : boolOf P = true := @decide_eq_true P (Classical.propDecidable P) h
theorem boolOf_false {P : Prop} (h : ¬ P) : boolOf P = false := @decide_eq_false P (Classical.propDecidable P) h
/-- rows of numbers, their lengths within their capacities -/
def LLc (B : Nat) (W : World) (v : Value) (n : Nat) (len : Nat → Nat) (f : Nat → Nat → Int) : Prop :=
  ∃ a b off cap, v = .slice a n cap ∧ (0 < n → a = some ⟨b, off, none⟩ ∧ b < B) ∧ ∀ k, k < n → ∃ ra rb ro rc, W.cell? ⟨b, off + k, none⟩ = some (.slice ra (len k) rc) ∧ len k ≤ rc ∧ (0 < len k → ra = some ⟨rb, ro, none⟩ ∧ rb < B) ∧ ∀ i, i < len k → W.cell? ⟨rb, ro + i, none⟩ = some (.int .i64 (f k i))
theorem LLc.LLs {B : Nat} {W : World} {v : Value} {n : Nat} {len : Nat → Nat} {f : Nat → Nat → Int} (h : LLc B W v n len f) : LLs B W v n len f := by
  obtain ⟨a, b, off, cap, rfl, h1, h2⟩ := h
  refine ⟨a, b, off, cap, rfl, h1, fun k hk => ?_⟩
  obtain ⟨ra, rb, ro, rc, q1, -, q2, q3⟩ := h2 k hk
  exact ⟨_, q1, ra, rb, ro, rc, rfl, q2, q3⟩
theorem LLc.below {B : Nat} {W W' : World} {v : Value} {n : Nat} {len : Nat → Nat} {f : Nat → Nat → Int} (h : LLc B W v n len f) (hb : Below B W W') : LLc B W' v n len f := by
  obtain ⟨a, b, off, cap, rfl, h1, h2⟩ := h
  refine ⟨a, b, off, cap, rfl, h1, fun k hk => ?_⟩
  obtain ⟨ra, rb, ro, rc, q1, q0, q2, q3⟩ := h2 k hk
  exact ⟨ra, rb, ro, rc, (hb.cell (p := ⟨b, off + k, none⟩) (h1 (by omega)).2).trans q1, q0, q2, fun i hi => (hb.cell (p := ⟨rb, ro + i, none⟩) (q2 (by omega)).2).trans (q3 i hi)⟩
theorem LLc.mono {B B' : Nat} {W : World} {v : Value} {n : Nat} {len : Nat → Nat} {f : Nat → Nat → Int} (h : LLc B W v n len f) (hB : B ≤ B') : LLc B' W v n len f := by
  obtain ⟨a, b, off, cap, rfl, h1, h2⟩ := h
  refine ⟨a, b, off, cap, rfl, fun hn => ⟨(h1 hn).1, by have := (h1 hn).2; omega⟩, fun k hk => ?_⟩
  obtain ⟨ra, rb, ro, rc, q1, q0, q2, q3⟩ := h2 k hk
  exact ⟨ra, rb, ro, rc, q1, q0, fun h => ⟨(q2 h).1, by have := (q2 h).2; omega⟩, q3⟩
/-- the shape of a covering -/
structure ShP (G : Gl) (S : Int) (np : Nat) (len : Nat → Nat) (fp : Nat → Nat → Int) : Prop where
  lo : 1 ≤ S
  hi : S ≤ 24
  tets : S * G.n ≤ 1000
  num : np = nF G
  perms : ∀ k, k < np → permB (len k) (fp k) S = true
  free : ∀ j, j < 4 * G.n → G.tet j < 0 → ∀ i, i < S.toNat → fp (fN G j) i = i
/-- the classes are as many as the greatest number and one -/
theorem classes_mx {G : Gl} (hok : checkB G = true) : mxF (fun j => (fN G j : Nat)) (4 * G.n) = (nF G : Nat) :=
  mx_cnt (cls_inv hok).2.2.2 (fun _ _ => rfl) _ (Nat.le_refl _)
/-- the boxes -/
structure SHB (w W : World) (N : Nat) (G : Gl) (ga : Option Addr) (gc b : Nat) (ta : Option Addr) (tc : Nat) (S : Int) (pa : Option Addr) (np pc : Nat) : Prop where
  bel : Below N w W
  c0 : W.cell? ⟨N, 0, none⟩ = some (.slice ga G.n gc)
  c1 : W.cell? ⟨N + 1, 2, none⟩ = some (.slice ta G.n tc)
  c2 : W.cell? ⟨N + 1 + 1, 0, none⟩ = some (.int .i64 S)
  c3 : W.cell? ⟨N + 1 + 1, 1, none⟩ = some (.slice pa np pc)
  lt : N + 3 ≤ W.heap.size
theorem SHB.below {w W W' : World} {N : Nat} {G : Gl} {ga : Option Addr} {gc b : Nat} {ta : Option Addr} {tc : Nat} {S : Int} {pa : Option Addr} {np pc : Nat} (h : SHB w W N G ga gc b ta tc S pa np pc) (hb : Below W.heap.size W W') : SHB w W' N G ga gc b ta tc S pa np pc := by
  have hg := below_grown hb (Nat.le_refl _) none
  have := h.lt
  exact ⟨h.bel.trans (hb.mono (by omega)), hg.cell h.c0 (by simp), hg.cell h.c1 (by simp), hg.cell h.c2 (by simp), hg.cell h.c3 (by simp), by have := hb.size; omega⟩
theorem P84_int (p : Nat → Nat) (j0 k : Nat) (hk : k < 4) (w : World) : (Instr.index 84 (.agg #[.int .i64 (p j0 : Int), .int .i64 (p (j0 + 1) : Int), .int .i64 (p (j0 + 2) : Int), .int .i64 (p (j0 + 3) : Int)]) (.int .i64 (k : Int))).run Try.prog w = .ok (.int .i64 (p (j0 + k) : Int)) w :=
  P84_index (fun i => (p (j0 + i) : Int)) k hk w

set_option maxRecDepth 100000 in
set_option maxHeartbeats 4000000 in
theorem rshaped_walk {G : Gl} (hok : checkB G = true) (S : Int) (np : Nat) (len : Nat → Nat) (fp : Nat → Nat → Int) (v sv pv : Value) (w : World) (hG : GlAt w.heap.size w v G) (hsk : SKV w.heap.size w sv G) (hp : LLc w.heap.size w pv np len fp) (hlen : ∀ k, k < np → len k < 4611686018427387904) (hnp : np < 4611686018427387904) :
    Calls Try.prog 92 #[.agg #[v], sv, .agg #[.int .i64 S, pv]] w fun e w' => e = .returned (.bool (boolOf (ShP G S np len fp))) ∧ Below w.heap.size w w' := by
  have hn := ok_size hok
  have HOK := Lib.hid hok
  have HG := Lib.hid (And.intro hG (And.intro hp hlen))
  obtain ⟨ga, gc, rfl⟩ : ∃ a c, v = .slice a G.n c := by obtain ⟨a, _, _, cap, e, _⟩ := hG; exact ⟨a, cap, e⟩
  obtain ⟨pa, pc, rfl⟩ : ∃ a c, pv = .slice a np c := by obtain ⟨a, _, _, cap, e, _⟩ := hp; exact ⟨a, cap, e⟩
  obtain ⟨va, vc, ea, ec, ta, b, tc, da, dn, dc, ra, rn, rc, la, ln, lc, rfl, hta, htri⟩ := hsk
  have HT := Lib.hid (And.intro hta htri)
  clear hG hp hlen hta htri hok
  obtain ⟨N, hN⟩ : ∃ N, N = w.heap.size := ⟨_, rfl⟩
  have HN := Lib.hid hN
  have hb0 : ∀ o1 o2 o3, Below N w (((w.alloc o1).alloc o2).alloc o3) := fun o1 o2 o3 => by rw [hN]; (repeat' (first | assumption | exact Below.refl _ _ | refine below_then ?_ (by assumption) | refine below_al ?_ _ | refine below_dr ?_ | refine below_sc ?_ (by simp <;> omega) _))
  have HB0 := Lib.hid hb0
  clear hb0
  go_enter Try.func92, Try.ntmps92
  rcases Int.lt_or_le S 1 with s1 | s1
  · have q1 : decide (S < 1) = true := by simpa using s1
    have HF := Lib.hid (boolOf_false (P := ShP G S np len fp) (fun h => by have := h.lo; omega))
    clear hN
    go_wp2
    go_ret
    exact ⟨by rw [HF.out]; rfl, by rw [← HN.out]; exact HB0.out _ _ _⟩
  have q1 : decide (S < 1) = false := by simp; omega
  rcases Int.lt_or_le 24 S with s2 | s2
  · have q2 : decide (24 < S) = true := by simpa using s2
    have HF := Lib.hid (boolOf_false (P := ShP G S np len fp) (fun h => by have := h.hi; omega))
    clear hN
    go_wp2
    go_ret
    exact ⟨by rw [HF.out]; rfl, by rw [← HN.out]; exact HB0.out _ _ _⟩
  have q2 : decide (24 < S) = false := by simp; omega
  obtain ⟨s, rfl⟩ : ∃ s : Nat, S = s := ⟨S.toNat, by omega⟩
  obtain ⟨p, hp⟩ : ∃ p, p = s * G.n := ⟨_, rfl⟩
  have hpb : p ≤ 24000 := by
    have : s * G.n ≤ 24 * 1000 := Nat.mul_le_mul (by omega) hn
    omega
  have hpi : (s : Int) * (G.n : Int) = (p : Int) := by rw [hp]; push_cast; rfl
  have qp : IntKind.i64.wrap ((s : Int) * (G.n : Int)) = (p : Int) := by rw [hpi]; exact IntWalk.i64_in _ (by omega)
  have HP := Lib.hid hpi
  clear hp hpi
  rcases Nat.lt_or_ge 1000 p with s3 | s3
  · have q3 : decide ((1000 : Int) < (p : Int)) = true := by simp; omega
    have HF := Lib.hid (boolOf_false (P := ShP G s np len fp) (fun h => by have h1 := h.tets; rw [HP.out] at h1; omega))
    clear hN
    go_wp2
    go_ret
    exact ⟨by rw [HF.out]; rfl, by rw [← HN.out]; exact HB0.out _ _ _⟩
  have q3 : decide ((1000 : Int) < (p : Int)) = false := by simp; omega
  go_wp2
  rw [← hN]
  refine wp_named fun W0 hW => ?_
  have h0 : SHB w W0 N G ga gc 0 ta tc s pa np pc := by
    rw [hW, hN]; exact ⟨by (repeat' (first | assumption | exact Below.refl _ _ | refine below_then ?_ (by assumption) | refine below_al ?_ _ | refine below_dr ?_ | refine below_sc ?_ (by simp <;> omega) _)), by simp [go_sem], by simp [go_sem], by simp [go_sem], by simp [go_sem], by simp⟩
  have H0 := Lib.hid h0
  clear hW hN h0 HB0
  go_loopw [7, 40] (fun m i wr => ∃ t : Nat, t ≤ G.n ∧ i = .int .i64 t ∧ m = .int .i64 (mxF (fun j => (fN G j : Nat)) (4 * t)) ∧ SHB w wr N G ga gc 0 ta tc s pa np pc) (fun _ i _ => G.n - (intOf i).toNat)
  case atStart => exact ⟨0, by omega, rfl, rfl, H0.out⟩
  case round =>
    clear H0
    obtain ⟨t, ht, rfl, rfl, hB⟩ := hrel
    have HK := Lib.hid hB
    clear hB
    rcases Nat.lt_or_ge t G.n with htn | htn
    · obtain ⟨rfl, hbb⟩ := HT.out.1 (by omega)
      have cw : ∀ i, i < 4 → wr.cell? ⟨b, t * 4 + i, none⟩ = some (.int .i64 (fN G (4 * t + i) : Nat)) := fun i hi => by
        have h1 := HT.out.2 (4 * t + i) (by omega)
        rw [show 4 * t + i = t * 4 + i by omega] at h1
        have h2 := (HK.out.bel.cell (p := ⟨b, t * 4 + i, none⟩) (by show b < N; rw [HN.out]; exact hbb)).trans h1
        rw [show 4 * t + i = t * 4 + i by omega]; exact h2
      have e0 := cw 0 (by omega)
      have e1 := cw 1 (by omega)
      have e2 := cw 2 (by omega)
      have e3 := cw 3 (by omega)
      rw [Nat.add_zero, Nat.add_zero] at e0
      have t0 : 0 ≤ (t : Int) := by omega
      have tn : (t : Int) < (G.n : Int) := by omega
      have HC := Lib.hid cw
      clear cw
      go_wp2
      refine wp_named fun W1 hW => ?_
      have h1 : SHB w W1 N G ga gc 0 (some ⟨b, 0, none⟩) tc s pa np pc := by rw [hW]; exact HK.out.below ((Below.refl _ _).alloc (Nat.le_refl _) _)
      have H1 := Lib.hid h1
      clear h1 hW
      go_loopw [7, 45] (fun m i wz => ∃ f : Nat, f ≤ 4 ∧ i = .int .i64 f ∧ m = .int .i64 (mxF (fun j => (fN G j : Nat)) (4 * t + f)) ∧ wz = W1) (fun _ i _ => 4 - (intOf i).toNat)
      case atStart => exact ⟨0, by omega, rfl, rfl, rfl⟩
      case round =>
        obtain ⟨f, hf, rfl, rfl, rfl⟩ := hrel
        rcases Nat.lt_or_ge f 4 with hf4 | hf4
        · have hix := fun w => P84_int (fN G) (4 * t) f hf4 w
          have hlt := fN_lt HOK.out (show 4 * t + f < 4 * G.n by omega)
          have hnb : nF G ≤ 4000 := by have := cnt_le (clsAll G).r4 (4 * G.n); unfold nF; omega
          have hmx : mxF (fun j => (fN G j : Nat)) (4 * t + f + 1) = max (mxF (fun j => (fN G j : Nat)) (4 * t + f)) ((fN G (4 * t + f) : Int) + 1) := rfl
          obtain ⟨x, hx⟩ : ∃ x, x = fN G (4 * t + f) := ⟨_, rfl⟩
          rw [← hx] at hix hlt hmx
          have HX := Lib.hid hmx
          have qx : IntKind.i64.wrap ((x : Int) + 1) = (x : Int) + 1 := IntWalk.i64_in _ (by omega)
          have f0 : 0 ≤ (f : Int) := by omega
          have f4 : (f : Int) < 4 := by omega
          clear hmx hx
          go_wp2
          exact ⟨⟨f + 1, by omega, by simp, by rw [show 4 * t + (f + 1) = 4 * t + f + 1 by omega, HX.out], trivial⟩, by simp [intOf]; omega⟩
        · obtain rfl : f = 4 := by omega
          go_wp2
          exact ⟨⟨t + 1, by omega, by simp, by rw [show 4 * (t + 1) = 4 * t + 4 by omega], H1.out⟩, by simp [intOf]; omega⟩
    · obtain rfl : t = G.n := by omega
      rw [classes_mx HOK.out]
      have c3 := HK.out.c3
      obtain ⟨nf, hnf⟩ : ∃ nf, nf = nF G := ⟨_, rfl⟩
      rw [← hnf]
      have HNF := Lib.hid hnf
      clear hnf
      by_cases hnn : np = nf
      · subst hnn
        have q4 : ((np : Int) != (np : Int)) = false := by simp
        go_wp2
        obtain ⟨wk, hwk⟩ : ∃ wk, wk = wr := ⟨_, rfl⟩
        subst hwk
        have hNs : N ≤ wk.heap.size := by have := HK.out.lt; omega
        have rowk : ∀ k, k < np → ∃ pb po ra rb ro rc, pa = some ⟨pb, po, none⟩ ∧ wk.cell? ⟨pb, po + k, none⟩ = some (.slice ra (len k) rc) ∧ len k ≤ rc ∧ pb < N ∧ (0 < len k → ra = some ⟨rb, ro, none⟩ ∧ rb < N) ∧ ∀ i, i < len k → wk.cell? ⟨rb, ro + i, none⟩ = some (.int .i64 (fp k i)) := fun k hk => by
          obtain ⟨a, pb, po, cap, e, h1, h2⟩ := HG.out.2.1
          obtain ⟨rfl, rfl⟩ : pa = a ∧ pc = cap := by simpa using e
          obtain ⟨rfl, hpB⟩ := h1 (by omega)
          obtain ⟨ra, rb, ro, rc, r1, r2, r3, r4⟩ := h2 k hk
          rw [← HN.out] at hpB r3
          exact ⟨pb, po, ra, rb, ro, rc, rfl, (HK.out.bel.cell (p := ⟨pb, po + k, none⟩) hpB).trans r1, r2, hpB, r3, fun i hi => (HK.out.bel.cell (p := ⟨rb, ro + i, none⟩) (r3 (by omega)).2).trans (r4 i hi)⟩
        have HRW := Lib.hid rowk
        have c2 := HK.out.c2
        clear rowk
        go_loopw [62] (fun i wz => ∃ k : Nat, k ≤ np ∧ i = .int .i64 k ∧ (∀ m, m < k → permB (len m) (fp m) s = true) ∧ wz = wk) (fun i _ => np - (intOf i).toNat)
        case atStart => exact ⟨0, by omega, rfl, fun m hm => by omega, rfl⟩
        case round =>
          obtain ⟨k, hk, rfl, hall, rfl⟩ := hrel
          have HA := Lib.hid hall
          clear hall
          rcases Nat.lt_or_ge k np with hkn | hkn
          · obtain ⟨pb, po, ra, rb, ro, rc, rfl, r1, r2, r3, r4, r5⟩ := HRW.out k hkn
            have hSI : SI N wr (.slice ra (len k) rc) (len k) (fp k) := ⟨ra, rb, ro, rc, rfl, r4, r5⟩
            have hl := HG.out.2.2 k hkn
            have k0 : 0 ≤ (k : Int) := by omega
            have kn : (k : Int) < (np : Int) := by omega
            have h73 := rperm_walk (len k) (fp k) s hl (by omega) N wr ra rc r2 hSI
            obtain ⟨β, hβ⟩ : ∃ β, β = permB (len k) (fp k) s := ⟨_, rfl⟩
            rw [← hβ] at h73
            have H73 := Lib.hid h73
            obtain ⟨l, hle⟩ : ∃ l, l = len k := ⟨_, rfl⟩
            rw [← hle] at r1 H73
            clear h73 hSI r2 r4 r5 hl hle
            cases β with
            | false =>
              have HF := Lib.hid (boolOf_false (P := ShP G s np len fp) (fun h => by have := h.perms k hkn; rw [← hβ] at this; cases this))
              clear hβ
              go_wp2_with (go_at_call 73; (with_reducible refine H73.out.mono ?_); rintro e w5 ⟨rfl, rfl⟩)
              go_ret
              exact ⟨by rw [HF.out]; rfl, by rw [← HN.out]; exact HK.out.bel⟩
            | true =>
              have HT2 := Lib.hid hβ.symm
              clear hβ
              go_wp2_with (go_at_call 73; (with_reducible refine H73.out.mono ?_); rintro e w5 ⟨rfl, rfl⟩)
              exact ⟨⟨k + 1, by omega, by simp, fun m hm => by
                rcases Nat.lt_or_ge m k with h | h
                · exact HA.out m h
                · rw [show m = k by omega]; exact HT2.out, trivial⟩, by simp [intOf]; omega⟩
          · obtain rfl : k = np := by omega
            have hls : ∀ m, m < k → len m = s := fun m hm => by
              have := (permB_range (HA.out m hm)).1; omega
            have HLS := Lib.hid hls
            have c1 := HK.out.c1
            clear hls
            go_wp2
            obtain ⟨V, hV⟩ : ∃ V, V = wr := ⟨_, rfl⟩
            subst hV
            go_loopw [75] (fun i wz => ∃ t : Nat, t ≤ G.n ∧ i = .int .i64 t ∧ (∀ j, j < 4 * t → G.tet j < 0 → ∀ i, i < s → fp (fN G j) i = i) ∧ Below V.heap.size V wz) (fun i _ => G.n - (intOf i).toNat)
            case atStart => exact ⟨0, by omega, rfl, fun j hj => by omega, Below.refl _ _⟩
            case round =>
              obtain ⟨t, ht, rfl, hfr, hbz⟩ := hrel
              have HFR := Lib.hid (And.intro hfr hbz)
              have hB := HK.out.below hbz
              rcases Nat.lt_or_ge t G.n with htn | htn
              · obtain ⟨rfl, hbb⟩ := HT.out.1 (by omega)
                have cw : ∀ i, i < 4 → wr.cell? ⟨b, t * 4 + i, none⟩ = some (.int .i64 (fN G (4 * t + i) : Nat)) := fun i hi => by
                  have h1 := HT.out.2 (4 * t + i) (by omega)
                  rw [show 4 * t + i = t * 4 + i by omega] at h1
                  have h2 := (hB.bel.cell (p := ⟨b, t * 4 + i, none⟩) (by show b < N; rw [HN.out]; exact hbb)).trans h1
                  rw [show 4 * t + i = t * 4 + i by omega]; exact h2
                have e0 := cw 0 (by omega)
                have e1 := cw 1 (by omega)
                have e2 := cw 2 (by omega)
                have e3 := cw 3 (by omega)
                rw [Nat.add_zero, Nat.add_zero] at e0
                have t0 : 0 ≤ (t : Int) := by omega
                have tn : (t : Int) < (G.n : Int) := by omega
                clear cw hfr hbz hB
                go_wp2
                refine wp_named fun W1 hW => ?_
                have h1 : Below V.heap.size V W1 := by rw [hW]; exact HFR.out.2.alloc HFR.out.2.size _
                have hB1 := HK.out.below h1
                have x0 := hB1.c0
                have x3 := hB1.c3
                have H1 := Lib.hid (And.intro h1 hB1)
                clear h1 hB1 hW e0 e1 e2 e3
                go_loopw [81] (fun i wz => ∃ f : Nat, f ≤ 4 ∧ i = .int .i64 f ∧ (∀ j, j < 4 * t + f → G.tet j < 0 → ∀ i, i < s → fp (fN G j) i = i) ∧ wz = W1) (fun i _ => 4 - (intOf i).toNat)
                case atStart => exact ⟨0, by omega, rfl, HFR.out.1, rfl⟩
                case round =>
                  obtain ⟨f, hf, rfl, hfr, rfl⟩ := hrel
                  have HF1 := Lib.hid hfr
                  clear hfr
                  rcases Nat.lt_or_ge f 4 with hf4 | hf4
                  · have hix := fun w => P84_int (fN G) (4 * t) f hf4 w
                    have hlt := fN_lt HOK.out (show 4 * t + f < 4 * G.n by omega)
                    rw [← HNF.out] at hlt
                    obtain ⟨pb, po, ra, rb, ro, rc, rfl, r1, -, r3, r4, r5⟩ := HRW.out (fN G (4 * t + f)) hlt
                    rw [HLS.out _ hlt] at r1 r4 r5
                    obtain ⟨rfl, hrb⟩ := r4 (by omega)
                    have hr1 := (H1.out.1.cell (p := ⟨pb, po + fN G (4 * t + f), none⟩) (by show pb < V.heap.size; omega)).trans r1
                    obtain ⟨_, gb, go, _, hve, hga, hgc⟩ := HG.out.1
                    obtain ⟨rfl, rfl⟩ : ga = _ ∧ gc = _ := by simpa using hve
                    obtain ⟨rfl, hgB⟩ := hga (by omega)
                    have ct := (H1.out.2.bel.cell (p := ⟨gb, go + 5 * (4 * t + f), none⟩) (by show gb < N; rw [HN.out]; exact hgB)).trans (hgc (4 * t + f) (by omega)).1
                    rw [show go + 5 * (4 * t + f) = go + t * 20 + f * 5 by omega] at ct
                    obtain ⟨T, hT⟩ : ∃ T, T = G.tet (4 * t + f) := ⟨_, rfl⟩
                    obtain ⟨c, hc⟩ : ∃ c, c = fN G (4 * t + f) := ⟨_, rfl⟩
                    have hrow : ∀ i, i < s → wr.cell? ⟨rb, ro + i, none⟩ = some (.int .i64 (fp c i)) := fun i hi => by
                      rw [hc]; exact (H1.out.1.cell (p := ⟨rb, ro + i, none⟩) (by show rb < V.heap.size; omega)).trans (r5 i hi)
                    rw [← hT] at ct
                    rw [← hc] at hix hlt hr1
                    have HX := Lib.hid (And.intro hT (And.intro hc hrow))
                    have f0 : 0 ≤ (f : Int) := by omega
                    have f4 : (f : Int) < 4 := by omega
                    have c0' : 0 ≤ (c : Int) := by omega
                    have cn : (c : Int) < (k : Int) := by omega
                    clear hT hc hrow r1 r3 r4 r5 hrb hve hga hgc hgB
                    go_wp2
                    obtain ⟨W2, hW2⟩ : ∃ W2, W2 = wr := ⟨_, rfl⟩
                    subst hW2
                    go_loopw [91] (fun a wz => ∃ i : Nat, i ≤ s ∧ a = .int .i64 i ∧ (T < 0 → ∀ m, m < i → fp c m = m) ∧ wz = W2) (fun a _ => s - (intOf a).toNat)
                    case atStart => exact ⟨0, by omega, rfl, fun _ m hm => by omega, rfl⟩
                    case round =>
                      obtain ⟨i, hi, rfl, hid, rfl⟩ := hrel
                      have HI := Lib.hid hid
                      clear hid
                      rcases Nat.lt_or_ge i s with his | his
                      · have hx := HX.out.2.2 i his
                        obtain ⟨x, hxe⟩ : ∃ x, x = fp c i := ⟨_, rfl⟩
                        rw [← hxe] at hx
                        have HXE := Lib.hid hxe
                        clear hxe
                        have i0 : 0 ≤ (i : Int) := by omega
                        have is : (i : Int) < (s : Int) := by omega
                        rcases Int.lt_or_le T 0 with hT0 | hT0
                        · have q5 : decide (T < 0) = true := by simpa using hT0
                          by_cases hxi : x = i
                          · have q6 : ((i : Int) != x) = false := by simp [hxi]
                            go_wp2
                            exact ⟨⟨i + 1, by omega, by simp, fun hn m hm => by
                              rcases Nat.lt_or_ge m i with h | h
                              · exact HI.out hn m h
                              · rw [show m = i by omega, ← HXE.out, hxi], trivial⟩, by simp [intOf]; omega⟩
                          · have q6 : ((i : Int) != x) = true := by simp; exact fun h => hxi h.symm
                            have HF := Lib.hid (boolOf_false (P := ShP G s k len fp) (fun h => hxi (by
                              have := h.free (4 * t + f) (by omega) (by rw [← HX.out.1]; exact hT0) i (by simpa using his)
                              rw [← HX.out.2.1, ← HXE.out] at this; exact this)))
                            go_wp2
                            go_ret
                            exact ⟨by rw [HF.out]; rfl, by rw [← HN.out]; exact H1.out.2.bel⟩
                        · have q5 : decide (T < 0) = false := by simp; omega
                          go_wp2
                          exact ⟨⟨i + 1, by omega, by simp, fun hn => by omega, trivial⟩, by simp [intOf]; omega⟩
                      · obtain rfl : i = s := by omega
                        go_wp2
                        exact ⟨⟨f + 1, by omega, by simp, fun j hj hn m hm => by
                          rcases Nat.lt_or_ge j (4 * t + f) with h | h
                          · exact HF1.out j h hn m hm
                          · have hj2 : j = 4 * t + f := by omega
                            rw [hj2] at hn ⊢
                            rw [← HX.out.2.1]; exact HI.out (by rw [HX.out.1]; exact hn) m hm, trivial⟩, by simp [intOf]; omega⟩
                  · obtain rfl : f = 4 := by omega
                    go_wp2
                    exact ⟨⟨t + 1, by omega, by simp, fun j hj => HF1.out j (by omega), H1.out.1⟩, by simp [intOf]; omega⟩
              · obtain rfl : t = G.n := by omega
                have HT3 := Lib.hid (boolOf_true (P := ShP G s k len fp) ⟨by omega, by omega, by rw [HP.out]; omega, HNF.out, HA.out, fun j hj hn i hi => HFR.out.1 j hj hn i (by simpa using hi)⟩)
                have HB4 := Lib.hid hB.bel
                clear hfr hbz hB
                go_wp2
                go_ret
                exact ⟨by rw [HT3.out]; rfl, by rw [← HN.out]; exact HB4.out⟩
      · have q4 : ((np : Int) != (nf : Int)) = true := by simp; omega
        have HF := Lib.hid (boolOf_false (P := ShP G s np len fp) (fun h => hnn (by rw [HNF.out]; exact h.num)))
        go_wp2
        go_ret
        exact ⟨by rw [HF.out]; rfl, by rw [← HN.out]; exact HK.out.bel⟩
end Go.Proofs.Ytlckpgahijlmoaa
