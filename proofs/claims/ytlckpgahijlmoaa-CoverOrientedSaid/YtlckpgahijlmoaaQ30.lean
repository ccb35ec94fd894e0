/- cover's checked. -/
import Derived.Test.YtlckpgahijlmoaaQ29
namespace Go.Proofs.Ytlckpgahijlmoaa
open Go.RowKit Go.Shelf Go.Maps
attribute [local go_sem] Oper.semAt_some

/-- what checked asks of a covering -/
structure CovOK (G : Gl) (sh : Int) (np : Nat) (len : Nat → Nat) (fp : Nat → Nat → Int) : Prop where
  lo : 1 ≤ sh
  hi : sh ≤ 24
  tets : sh * G.n ≤ 1000
  num : np = nF G
  perms : ∀ k, k < np → permB (len k) (fp k) sh = true
  free : ∀ t f, (fD G (4 * G.n) (t, f)).isSome = true → G.tet (4 * t + f) < 0 → ∀ i, i < sh.toNat → fp (fN G (4 * t + f)) i = i
  rings : ringsTo G fp (fun k => invP (fp k) sh.toNat) sh.toNat (6 * G.n)

theorem LLs.lens {B : Nat} {W : World} {v : Value} {n : Nat} {len len' : Nat → Nat} {f : Nat → Nat → Int} (h : LLs B W v n len f) (e : ∀ k, k < n → len k = len' k) : LLs B W v n len' f := by
  obtain ⟨a, b, off, cap, rfl, h1, h2⟩ := h
  refine ⟨a, b, off, cap, rfl, h1, fun k hk => ?_⟩
  obtain ⟨rv, h3, h4⟩ := h2 k hk
  exact ⟨rv, h3, by rw [← e k hk]; exact h4⟩
/-- rows of numbers in memory from K on -/
def LLn (K B : Nat) (W : World) (v : Value) (n : Nat) (len : Nat → Nat) (f : Nat → Nat → Int) : Prop :=
  ∃ a b off cap, v = .slice a n cap ∧ (0 < n → a = some ⟨b, off, none⟩ ∧ K ≤ b ∧ b < B) ∧ ∀ k, k < n → ∃ ra rb ro rc, W.cell? ⟨b, off + k, none⟩ = some (.slice ra (len k) rc) ∧ (0 < len k → ra = some ⟨rb, ro, none⟩ ∧ K ≤ rb ∧ rb < B) ∧ ∀ i, i < len k → W.cell? ⟨rb, ro + i, none⟩ = some (.int .i64 (f k i))
theorem LLn.LLs {K B : Nat} {W : World} {v : Value} {n : Nat} {len : Nat → Nat} {f : Nat → Nat → Int} (h : LLn K B W v n len f) : LLs B W v n len f := by
  obtain ⟨a, b, off, cap, rfl, h1, h2⟩ := h
  refine ⟨a, b, off, cap, rfl, fun hn => ⟨(h1 hn).1, (h1 hn).2.2⟩, fun k hk => ?_⟩
  obtain ⟨ra, rb, ro, rc, q1, q2, q3⟩ := h2 k hk
  exact ⟨_, q1, ra, rb, ro, rc, rfl, fun hp => ⟨(q2 hp).1, (q2 hp).2.2⟩, q3⟩
theorem LLn.kept {K B : Nat} {W W' : World} {v : Value} {n : Nat} {len : Nat → Nat} {f : Nat → Nat → Int} {row : Option Nat} (h : LLn K B W v n len f) (hg : W.grownBy W' row) (hr : ∀ r, row = some r → r < K) : LLn K B W' v n len f := by
  obtain ⟨a, b, off, cap, rfl, h1, h2⟩ := h
  refine ⟨a, b, off, cap, rfl, h1, fun k hk => ?_⟩
  obtain ⟨ra, rb, ro, rc, q1, q2, q3⟩ := h2 k hk
  exact ⟨ra, rb, ro, rc, hg.cell q1 (fun e => by have := hr b e.symm; have := (h1 (by omega)).2.1; omega), q2, fun i hi => hg.cell (q3 i hi) (fun e => by have := hr rb e.symm; have := (q2 (by omega)).2.1; omega)⟩
theorem LLn.mono {K K' B B' : Nat} {W : World} {v : Value} {n : Nat} {len : Nat → Nat} {f : Nat → Nat → Int} (h : LLn K B W v n len f) (hK : K' ≤ K) (hB : B ≤ B') : LLn K' B' W v n len f := by
  obtain ⟨a, b, off, cap, rfl, h1, h2⟩ := h
  refine ⟨a, b, off, cap, rfl, fun hn => ⟨(h1 hn).1, by have := (h1 hn).2.1; omega, by have := (h1 hn).2.2; omega⟩, fun k hk => ?_⟩
  obtain ⟨ra, rb, ro, rc, q1, q2, q3⟩ := h2 k hk
  exact ⟨ra, rb, ro, rc, q1, fun hp => ⟨(q2 hp).1, by have := (q2 hp).2.1; omega, by have := (q2 hp).2.2; omega⟩, q3⟩
theorem CI.LLn {W : World} {K : Nat} {v : Value} {k : Nat} {xs : List Value} {len : Nat → Nat} {f : Nat → Nat → Int} (h : CI W K v k xs len f) : LLn K W.heap.size W v k len f := by
  rcases h.own.2 with ⟨rfl, rfl⟩ | ⟨g, cap, cur, rfl, _, hgg, _⟩
  · exact ⟨none, 0, 0, 0, rfl, fun h => by omega, fun j hj => by omega⟩
  · refine ⟨_, g, 0, cap, rfl, fun _ => ⟨rfl, (h.own.lt g rfl).1, (Array.getElem?_eq_some_iff.1 hgg).1⟩, fun j hj => ?_⟩
    obtain ⟨a, d, rc, e, h3, h4⟩ := h.row j hj
    have := h.own.cells (g := g) rfl j _ e
    rw [Addr.add_mid] at this
    exact ⟨a, d, 0, rc, this, fun hp => ⟨(h3 hp).1, (h3 hp).2.1, (h3 hp).2.2.1⟩, fun i hi => by rw [Nat.zero_add]; exact h4 i hi⟩
/-- a new covering in memory: all its blocks are K or more -/
structure CN (W : World) (K Cv X : Nat) (pv bv : Value) (n sh : Nat) (g : Nat → Nat → Int) : Prop where
  c0 : W.cell? ⟨Cv, 0, none⟩ = some (.pointer (some ⟨X, 0, none⟩))
  c1 : W.cell? ⟨Cv, 1, none⟩ = some (.int .i64 (sh : Int))
  c2 : W.cell? ⟨Cv, 2, none⟩ = some pv
  c3 : W.cell? ⟨Cv, 3, none⟩ = some bv
  lo : K ≤ Cv
  bl : LLn K W.heap.size W bv n (fun _ => sh) g
theorem CN.kept {W W' : World} {K Cv X : Nat} {pv bv : Value} {n sh : Nat} {g : Nat → Nat → Int} {row : Option Nat} (h : CN W K Cv X pv bv n sh g) (hg : W.grownBy W' row) (hr : ∀ r, row = some r → r < K) : CN W' K Cv X pv bv n sh g := by
  have ne : some Cv ≠ row := fun e => by have := hr Cv e.symm; have := h.lo; omega
  exact ⟨hg.cell h.c0 ne, hg.cell h.c1 ne, hg.cell h.c2 ne, hg.cell h.c3 ne, h.lo, (h.bl.kept hg hr).mono (Nat.le_refl _) hg.size⟩
theorem CN.CV {W : World} {K Cv X B' mb : Nat} {v pv bv : Value} {G : Gl} {vv ev tv lv : Value} {dB rB sh : Nat} {f g : Nat → Nat → Int} (h : CN W K Cv X pv bv (nF G) sh g) (hs : SP W B' X mb v G (4 * G.n) vv ev tv lv dB rB) (hp : LLs W.heap.size W pv (nF G) (fun _ => sh) f) : CV W W.heap.size Cv B' X mb v pv bv G vv ev tv lv dB rB sh f g :=
  ⟨h.c0, h.c1, h.c2, h.c3, hs, hp, h.bl.LLs⟩
theorem SP.keptRow {W W' : World} {B X mb : Nat} {v : Value} {G : Gl} {k : Nat} {vv ev tv lv : Value} {dB rB r : Nat} (h : SP W B X mb v G k vv ev tv lv dB rB) (hg : W.grownBy W' (some r)) (hr : r < B) : SP W' B X mb v G k vv ev tv lv dB rB := by
  have nX : some X ≠ some r := fun e => by have := h.lo.1; cases e; omega
  have nM : some mb ≠ some r := fun e => by have := h.lo.2; cases e; omega
  have ow : ∀ {e : TypeId} {z n : Nat} {u : Value} {xs : List Value}, W.ownsRow B e z u n xs → some r = none ∨ u.ownBlock ≠ some r := fun hu => .inr (fun e => by have := (hu.lt r e).1; omega)
  obtain ⟨nn, hm⟩ := h.map
  exact ⟨hg.cell h.c0 nX, hg.cell h.c1 nX, hg.cell h.c2 nX, hg.cell h.c3 nX, hg.cell h.c4 nX, hg.cell h.c5 nX, hg.cell h.c6 nX, hg.cell h.c7 nX, hg.cell h.c8 nX, (hg.frozen_far ⟨X, 8, none⟩ h.lt nX).trans h.f8, h.own.kept hg (by
    cases hq : ev.ownBlock with
    | none => exact .inl rfl
    | some b => exact .inr (fun e => by have := (h.own.lt b hq).1; cases e; omega)), h.twn.kept hg (by
    cases hq : tv.ownBlock with
    | none => exact .inl rfl
    | some b => exact .inr (fun e => by have := (h.twn.lt b hq).1; cases e; omega)), ⟨nn, hm.kept hg nM⟩, h.ne, h.lo⟩
theorem invP_range {f : Nat → Int} {s : Nat} (hs : 1 ≤ s) (x : Nat) : ∀ k, k ≤ s → 0 ≤ invP f k x ∧ invP f k x < s
  | 0, _ => by simp only [invP]; omega
  | k + 1, hk => by
    simp only [invP]
    split
    · omega
    · exact invP_range hs x k (by omega)
set_option maxRecDepth 100000 in
set_option maxHeartbeats 4000000 in
theorem checked_walk {G : Gl} (hok : checkB G = true) {w : World} {B' X mb : Nat} {v vv ev tv lv : Value} {dB rB : Nat} (hSP : SP w B' X mb v G (4 * G.n) vv ev tv lv dB rB) (hGl : GlAt w.heap.size w v G)
    (sh : Int) (pv : Value) (np : Nat) (len : Nat → Nat) (fp : Nat → Nat → Int) (hpv : LLs w.heap.size w pv np len fp) (hlen : ∀ k, k < np → len k < 4611686018427387904) (hnp : np < 4611686018427387904) :
    Calls Try.prog 85 #[.pointer (some ⟨X, 0, none⟩), .agg #[.int .i64 sh, pv]] w fun e w' => Below w.heap.size w w' ∧ ((CovOK G sh np len fp ∧ ∃ Cv bv, e = .returned (.pointer (some ⟨Cv, 0, none⟩)) ∧ CN w' w.heap.size Cv X pv bv (nF G) sh.toNat (fun k => invP (fp k) sh.toNat)) ∨
      (¬ CovOK G sh np len fp ∧ e = .panicked [{ v := noCov, recovered := false }])) := by
  have hn : G.n ≤ 1000 := by simp only [checkB, Bool.and_eq_true, decide_eq_true_eq] at hok; exact hok.1
  have x0 := hSP.c0
  have x8 := hSP.c8
  have hnF : cnt (clsAll G).r4 (4 * G.n) = nF G := rfl
  rw [hnF] at x8
  obtain ⟨a, cap, hv⟩ : ∃ a cap, v = .slice a G.n cap := by obtain ⟨a, _, _, cap, e, _⟩ := hGl; exact ⟨a, cap, e⟩
  subst hv
  obtain ⟨pa, pc, hpe⟩ : ∃ a cap, pv = .slice a np cap := by obtain ⟨a, _, _, cap, e, _⟩ := hpv; exact ⟨a, cap, e⟩
  subst hpe
  have lX := lt_of_cell x0
  simp only at lX
  have HC := Lib.hid (And.intro hok (And.intro hSP (And.intro hGl (And.intro hpv hlen))))
  clear hok hSP hGl hpv hlen hnF
  refine (callsIn_wide (n := 6)).1 ?_
  refine callsIn_of_wp_marks Try.func85 rfl trivial ?_ rfl
  simp only [Try.ntmps85, List.size_toArray, List.length_cons, List.length_nil, Nat.reduceAdd, Nat.reduceSub, Array.replicate_succ, Array.replicate_zero, List.push_toArray, List.append_toArray, List.nil_append, List.cons_append]
  refine wpIn_wide.2 ?_
  have x0a := cell_al (o := .cells #[.int .i64 sh, .slice pa np pc] 28) x0
  go_wp2
  refine wp_named fun W1 hW => ?_
  have h1 : w.grownBy W1 none ∧ W1.cell? ⟨w.heap.size, 0, none⟩ = some (.int .i64 sh) ∧ W1.cell? ⟨w.heap.size, 1, none⟩ = some (.slice pa np pc) ∧ W1.cell? ⟨X, 8, none⟩ = some (.int .i64 (nF G : Nat)) ∧ W1.heap.size = w.heap.size + 1 := by
    rw [hW]
    exact ⟨World.grownBy_alloc w _ none, by simp [go_sem], by simp [go_sem], cell_al x8 _, by simp⟩
  obtain ⟨g1, b0, b1, y8, z1⟩ := h1
  replace b0 : W1.drew.cell? ⟨w.heap.size, 0, none⟩ = some (.int .i64 sh) := b0
  replace b1 : W1.drew.cell? ⟨w.heap.size, 1, none⟩ = some (.slice pa np pc) := b1
  replace y8 : W1.drew.cell? ⟨X, 8, none⟩ = some (.int .i64 (nF G : Nat)) := y8
  have HG1 := Lib.hid g1
  clear g1 hW x0a
  generalize hN : w.heap.size = N at *
  have HW1 := Lib.hid (show Below N w W1.drew by rw [← hN]; exact below_dr ((Below.refl _ _).grown HG1.out (Nat.le_refl _) (fun k h => by cases h)))
  have hcase : sh < 1 ∨ (1 ≤ sh ∧ 24 < sh) ∨ (∃ s p : Nat, sh = (s : Int) ∧ 1 ≤ s ∧ s ≤ 24 ∧ p = s * G.n ∧ p ≤ 24000) := by
    rcases Int.lt_or_le sh 1 with h | h
    · exact .inl h
    · rcases Int.lt_or_le 24 sh with h2 | h2
      · exact .inr (.inl ⟨h, h2⟩)
      · exact .inr (.inr ⟨sh.toNat, _, by omega, by omega, by omega, rfl, Nat.le_trans (Nat.mul_le_mul (show sh.toNat ≤ 24 by omega) hn) (by omega)⟩)
  rcases hcase with c1 | ⟨c1, c2⟩ | ⟨s, p, rfl, c1, c2, hp, hp2⟩
  · have q1 : decide (1 ≤ sh) = false := by simp; omega
    refine region_tail2 25 (by kernel_rfl) (by kernel_rfl) (fun Q2 hQ2 => ?_)
    repeat (refine wpSt_step (fun K hK => ?_); go_simp; refine hK _ ?_; clear hK K)
    refine wpSt_nil (hQ2 _ ?_)
    clear hQ2 Q2
    go_wp2_with (go_at_call 115; (with_reducible refine (need_false _).mono ?_); rintro e w5 ⟨rfl, rfl⟩)
    exact ⟨hN ▸ HW1.out, .inr ⟨fun h => by have := h.lo; omega, rfl⟩⟩
  · have q1 : decide (1 ≤ sh) = true := by simp; omega
    have q2 : decide (sh ≤ 24) = false := by simp; omega
    refine region_tail2 25 (by kernel_rfl) (by kernel_rfl) (fun Q2 hQ2 => ?_)
    repeat (refine wpSt_step (fun K hK => ?_); go_simp; refine hK _ ?_; clear hK K)
    refine wpSt_nil (hQ2 _ ?_)
    clear hQ2 Q2
    go_wp2_with (go_at_call 115; (with_reducible refine (need_false _).mono ?_); rintro e w5 ⟨rfl, rfl⟩)
    exact ⟨hN ▸ HW1.out, .inr ⟨fun h => by have := h.hi; omega, rfl⟩⟩
  · have q1 : decide (1 ≤ (s : Int)) = true := by simp; omega
    have q2 : decide ((s : Int) ≤ 24) = true := by simp; omega
    have q3 : IntKind.i64.wrap ((s : Int) * (G.n : Int)) = (p : Int) := by rw [hp]; rw [IntWalk.i64_in _ (by push_cast at *; omega)]; push_cast; rfl
    have HP := Lib.hid hp
    clear hp
    by_cases c3 : p ≤ 1000
    · have q4 : decide ((p : Int) ≤ 1000) = true := by simp; omega
      by_cases c4 : np = nF G
      · have q5 : ((np : Int) == (nF G : Int)) = true := by simp; omega
        have b1d : ∀ o, (W1.alloc o).drew.cell? ⟨N, 1, none⟩ = some (.slice pa np pc) := fun o => cell_al (w := W1) b1 o
        have HNP := Lib.hid c4
        clear c4
        refine region_tail2 25 (by kernel_rfl) (by kernel_rfl) (fun Q2 hQ2 => ?_)
        repeat (refine wpSt_step (fun K hK => ?_); go_simp; refine hK _ ?_; clear hK K)
        refine wpSt_nil (hQ2 _ ?_)
        clear hQ2 Q2
        go_wp2_with (go_at_call 115; (with_reducible refine (need_true _).mono ?_); rintro e w5 ⟨⟨v5, rfl⟩, rfl⟩)
        obtain ⟨C, hCd⟩ : ∃ C, C = N + 1 := ⟨_, rfl⟩
        rw [← hCd]
        refine wp_named fun W2 hW => ?_
        have hB2 : BK w W2 N C X s (.slice pa np pc) (.slice none 0 0) 0 [] len fp := by
          have hC1 : C = W1.heap.size := by omega
          have hal := World.grownBy_alloc W1 (.cells #[.pointer (some ⟨X, 0, none⟩), .int .i64 (s : Int), .slice pa np pc, .slice none 0 0] 102) none
          have hg2 : W1.grownBy W2 none := by rw [hW]; exact grownBy_trans hal (grownBy_drew _ none)
          have cl : ∀ i x, (#[.pointer (some ⟨X, 0, none⟩), .int .i64 (s : Int), .slice pa np pc, .slice none 0 0] : Array Value)[i]? = some x → W2.cell? ⟨C, i, none⟩ = some x := fun i x hx => by
            rw [hW]
            show (W1.alloc _).cell? _ = _
            rw [World.cell?_alloc_at _ _ _ _ hC1]; exact hx
          have hbel : Below N w W2 := (show Below N w W1 from ⟨HW1.out.os, HW1.out.tape, HW1.out.output, HW1.out.size, HW1.out.block⟩).grown hg2 (by omega) (fun k h => by cases h)
          exact ⟨⟨World.ownsRow_nil _ _ _ _, fun j hj => by omega⟩, hg2.cell (show W1.cell? _ = _ from b0) (by simp), hg2.cell (show W1.cell? _ = _ from b1) (by simp), cl 0 _ rfl, cl 1 _ rfl, cl 2 _ rfl, cl 3 _ rfl, by rw [hW]; exact World.frozen?_alloc_at _ _ _ _ hC1, hbel, fun j hj => by omega⟩
        have hnp4 : np ≤ 4000 := by have := HNP.out; have := cnt_le (clsAll G).r4 (4 * G.n); unfold nF at *; omega
        clear b1d b0 b1 y8 hW q1 q2 q3 q4 q5
        refine perms_walk hCd hN HC.out.2.2.2.1 HC.out.2.2.2.2 hnp4 c1 c2 _ _ rfl rfl rfl rfl rfl rfl rfl hB2 ?_ ?_
        · intro tm2 W3 uv xs hK3 hB3
          obtain ⟨u, hu, -⟩ := frame190 tm2 hK3.size
          simp only at hu
          subst hu
          have i0 : u 0 = .pointer (some ⟨X, 0, none⟩) := Option.some.inj hK3.k0
          have i3 : u 3 = .pointer (some ⟨N, 0, none⟩) := Option.some.inj hK3.k3
          have i6 : u 6 = .pointer (some ⟨C, 0, none⟩) := Option.some.inj hK3.k6
          have hb3 : Below w.heap.size w W3 := by rw [hN]; exact hB3.bel
          have hSP3 := HC.out.2.1.below hb3
          have y7 := hSP3.c7
          obtain ⟨nn, hmap⟩ := hSP3.map
          have hmb := hmap.lt
          have hNs := hB3.bel.size
          have H3 := Lib.hid (And.intro hB3 (And.intro hb3 (And.intro hSP3 hmap)))
          clear hK3 hB3 hb3 hSP3 hmap
          go_wp2_with (at_range; refine wpList_range rfl 78 _ rfl und78 H3.out.2.2.2 rfl ?_; intro W4 cnt hM hg4 hs4)
          go_frame
          have hpk := H3.out.1.pk
          have hlens : ∀ k, k < np → len k = s := fun k hk => permB_len (hpk k hk)
          have hpv3 : LLs W3.heap.size W3 (.slice pa np pc) np (fun _ => s) fp := ((HC.out.2.2.2.1.below H3.out.1.bel).mono (by omega)).lens hlens
          have hGl3 := HC.out.2.2.1.below H3.out.1.bel
          have hb4 : Below W3.heap.size W3 W4 := (Below.refl _ _).grown hg4 (Nat.le_refl _) (fun k h => by cases h)
          have H4 := Lib.hid (And.intro hpk (And.intro hlens (And.intro hpv3 (And.intro hGl3 hb4))))
          refine free_walk hn (Wa := W3) (W0 := W4) (N := N) (X := X) (s := s) (np := np) (mb := mb) (r := W3.heap.size) (nn := nn) (cnt := cnt) (fp := fp) hGl3 (by omega) H3.out.2.2.1.c0 H3.out.1.b1 hpv3 HNP.out HC.out.1 (Nat.le_refl _) c2 hmb hb4 hM _ _ rfl (congrArg some i0) (congrArg some i3) rfl ?_ ?_
          · intro tm4 W5 hK5 hb5 hfree
            have g5 := below_grown hb5 (Nat.le_refl _) none
            have hB5 := H3.out.1.kept (by omega) g5
            have hbw5 : Below w.heap.size w W5 := H3.out.2.1.trans (hb5.mono H3.out.2.1.size)
            have hf : InSh (nF G) s fp := fun k hk i hi => by
              have hk2 : k < np := by rw [HNP.out]; exact hk
              have h1 := permB_range (H4.out.1 k hk2)
              have h2 := H4.out.2.1 k hk2
              exact h1.2 i (by omega)
            have hg : InSh (nF G) s (fun k => invP (fp k) s) := fun k hk i hi => invP_range c1 i s (Nat.le_refl _)
            have hCV : CV W5 W5.heap.size C B' X mb (.slice a G.n cap) (.slice pa np pc) uv G vv ev tv lv dB rB s fp (fun k => invP (fp k) s) :=
              ⟨hB5.c0, hB5.c1, hB5.c2, hB5.c3, HC.out.2.1.below hbw5, by rw [← HNP.out]; exact (H4.out.2.2.1.below hb5).mono hb5.size, by rw [← HNP.out]; exact hB5.ci.LLs⟩
            have hCN5 : CN W5 w.heap.size C X (.slice pa np pc) uv (nF G) s (fun k => invP (fp k) s) := ⟨hB5.c0, hB5.c1, hB5.c2, hB5.c3, by omega, by rw [← HNP.out]; exact hB5.ci.LLn.mono (by omega) (Nat.le_refl _)⟩
            go_step
            go_step
            refine tail_walk HC.out.1 hCV (Nat.le_refl _) hf hg c2 ((HC.out.2.2.1.below hB5.bel).mono (by have := hb5.size; omega)) hB5.b0 _ hK5.size (hK5.k0.trans (congrArg some i0)) (hK5.k3.trans (congrArg some i3)) (hK5.k6.trans (congrArg some i6)) ?_ ?_
            · intro W6 hb6 hrings
              exact ⟨hbw5.trans (hb6.mono hbw5.size), .inl ⟨⟨by omega, by omega, (by have h3 := HP.out; rw [← Int.natCast_mul, ← h3]; omega), HNP.out, H4.out.1, fun t f h1 h2 i hi => hfree (t, f) h1 h2 i hi, hrings⟩, C, uv, rfl, hCN5.kept (below_grown hb6 (Nat.le_refl _) none) (fun r e => by cases e)⟩⟩
            · intro W6 hb6 hbad
              exact ⟨hbw5.trans (hb6.mono hbw5.size), .inr ⟨fun h => hbad h.rings, rfl⟩⟩
          · rintro tm4 W5 hb5 ⟨pp, hsome, hbad⟩
            go_wp2
            exact ⟨H3.out.2.1.trans (hb5.mono H3.out.2.1.size), .inr ⟨fun h => hbad (fun hneg i hi => h.free pp.1 pp.2 hsome hneg i hi), rfl⟩⟩
        · rintro tm2 W3 hb3 ⟨k, hk, hbad⟩
          go_wp2
          exact ⟨(by rw [hN]; exact hb3), .inr ⟨(fun h => by have := h.perms k hk; rw [this] at hbad; exact Bool.noConfusion hbad), rfl⟩⟩
      · have q5 : ((np : Int) == (nF G : Int)) = false := by simp; omega
        refine region_tail2 25 (by kernel_rfl) (by kernel_rfl) (fun Q2 hQ2 => ?_)
        repeat (refine wpSt_step (fun K hK => ?_); go_simp; refine hK _ ?_; clear hK K)
        refine wpSt_nil (hQ2 _ ?_)
        clear hQ2 Q2
        go_wp2_with (go_at_call 115; (with_reducible refine (need_false _).mono ?_); rintro e w5 ⟨rfl, rfl⟩)
        exact ⟨hN ▸ HW1.out, .inr ⟨fun h => c4 h.num, rfl⟩⟩
    · have q4 : decide ((p : Int) ≤ 1000) = false := by simp; omega
      refine region_tail2 25 (by kernel_rfl) (by kernel_rfl) (fun Q2 hQ2 => ?_)
      repeat (refine wpSt_step (fun K hK => ?_); go_simp; refine hK _ ?_; clear hK K)
      refine wpSt_nil (hQ2 _ ?_)
      clear hQ2 Q2
      go_wp2_with (go_at_call 115; (with_reducible refine (need_false _).mono ?_); rintro e w5 ⟨rfl, rfl⟩)
      exact ⟨hN ▸ HW1.out, .inr ⟨fun h => by have h2 := h.tets; have h3 := HP.out; rw [← Int.natCast_mul, ← h3] at h2; omega, rfl⟩⟩
end Go.Proofs.Ytlckpgahijlmoaa
