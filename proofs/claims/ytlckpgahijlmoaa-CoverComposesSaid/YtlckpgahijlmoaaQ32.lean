/- A drawing region of reads and one last operation: the reads' steps, shut against unfolding. No condition. -/
import Derived.Test.YtlckpgahijlmoaaQ31
/- cover's checked: the edges of one tetrahedron. -/
namespace Go.Proofs.Ytlckpgahijlmoaa
open Go.RowKit Go.Shelf Go.Maps
attribute [local go_sem] Oper.semAt_some

/-- around the ring from s, where it closes, each sheet comes back to itself -/
def ringOK (G : Gl) (f g : Nat → Nat → Int) (sh : Nat) (s : RS) : Prop :=
  ∀ m, 0 < m → itr G 2 s m = some s → (∀ i, 0 < i → i < m → itr G 2 s i ≠ some s) → ∀ i, i < sh → shA G f g (pth G 2 s m) i m = i
theorem ring_uniq {G : Gl} {s : RS} {m m' : Nat} (h0 : 0 < m) (h0' : 0 < m') (h1 : itr G 2 s m = some s) (h2 : ∀ i, 0 < i → i < m → itr G 2 s i ≠ some s) (h1' : itr G 2 s m' = some s) (h2' : ∀ i, 0 < i → i < m' → itr G 2 s i ≠ some s) : m = m' := by
  rcases Nat.lt_trichotomy m m' with h | h | h
  · exact absurd h1 (h2' m h0 h)
  · exact h
  · exact absurd h1' (h2 m' h0' h)
theorem ring_all {G : Gl} {s : RS} {m : Nat} (h1 : itr G 2 s m = some s) : ∀ i, i < m → itr G 2 s i ≠ none := fun i hi e => by
  rw [itr_none e (by omega : i ≤ m)] at h1; cases h1
theorem ring_turns {G : Gl} {s : RS} {m : Nat} (h1 : itr G 2 s m = some s) : ∀ j, itr G 2 s (m * j) = some s := by
  intro j
  induction j with
  | zero => rfl
  | succ j ih => rw [Nat.mul_succ, itr_add, ih]; exact h1
theorem ring_open {G : Gl} {f g : Nat → Nat → Int} {sh : Nat} {s : RS} {k : Nat} (h : itr G 2 s k = none) : ringOK G f g sh s := fun m h0 h1 _ => by
  have h3 := ring_turns h1 k
  rw [itr_none h (Nat.le_mul_of_pos_left k h0)] at h3
  cases h3
theorem ring_len {G : Gl} (hok : checkB G = true) {s : RS} (hs : Rok G.n s) {m : Nat} (h1 : itr G 2 s m = some s) (h2 : ∀ i, 0 < i → i < m → itr G 2 s i ≠ some s) : m ≤ 256 * G.n + 1 := by
  obtain ⟨k0, hk0, hle, hkk⟩ := itr_ends hok (.inl ⟨rfl, rfl⟩) hs
  rcases Nat.lt_or_ge (256 * G.n + 1) m with h | h
  · exfalso
    rcases hkk with e | e
    · rw [itr_none e (by omega : k0 ≤ m)] at h1; cases h1
    · exact h2 k0 hk0 (by omega) e
  · exact h
/-- q is the first place of its class of edges -/
def firstE (G : Gl) (q : Nat) : Prop := ∀ q', q' < q → eN G q' ≠ eN G q
/-- all rings from the first places below p -/
def ringsTo (G : Gl) (f g : Nat → Nat → Int) (sh p : Nat) : Prop := ∀ q, q < p → firstE G q → ringOK G f g sh (frS (q / 6) (q % 6))
/-- which classes of edges have been met -/
def metB (G : Gl) (p j : Nat) : Bool := (List.range p).any fun q => eN G q == j
theorem metB_succ (G : Gl) (p j : Nat) : metB G (p + 1) j = (metB G p j || (eN G p == j)) := by simp [metB, List.range_succ]
theorem metB_first {G : Gl} {p : Nat} : metB G p (eN G p) = false ↔ firstE G p := by
  simp only [metB, firstE, List.any_eq_false, List.mem_range, beq_iff_eq]
theorem ringsTo_skip {G : Gl} {f g : Nat → Nat → Int} {sh p : Nat} (h : ringsTo G f g sh p) (hm : metB G p (eN G p) = true) : ringsTo G f g sh (p + 1) := fun q hq hf => by
  rcases Nat.lt_or_ge q p with h1 | h1
  · exact h q h1 hf
  · obtain rfl : q = p := by omega
    rw [metB_first.2 hf] at hm; cases hm
theorem ringsTo_succ {G : Gl} {f g : Nat → Nat → Int} {sh t e : Nat} (he : e < 6) (h : ringsTo G f g sh (6 * t + e)) (hr : ringOK G f g sh (frS t e)) : ringsTo G f g sh (6 * t + e + 1) := fun q hq hf => by
  rcases Nat.lt_or_ge q (6 * t + e) with h1 | h1
  · exact h q h1 hf
  · obtain rfl : q = 6 * t + e := by omega
    rw [show (6 * t + e) / 6 = t by omega, show (6 * t + e) % 6 = e by omega]
    exact hr
theorem frS_ok {n t e : Nat} (ht : t < n) (he : e < 6) : Rok n (frS t e) := ⟨ht, (frC_lt e he).1, (frC_lt e he).2⟩
/-- the classes met and the rings so far -/
structure JW (W0 W : World) (M N0 : Nat) (ds : List Deferred) (G : Gl) (f g : Nat → Nat → Int) (sh p : Nat) : Prop where
  bel : Below W0.heap.size W0 W
  met : W.rowIs M 4 (nE G) (fun j => .bool (metB G p j))
  marks : Marks ds W N0
  rings : ringsTo G f g sh p
theorem P162_index (cs : Array Value) (k : Nat) (v : Value) (hv : cs[k]? = some v) (hk : k < 6) (w : World) : (Instr.index 162 (.agg cs) (.int .i64 (k : Int))).run Try.prog w = .ok v w :=
  run_index_cell (n := 6) (d := .int .i64) (by kernel_rfl) Try.underlying3 rfl (by kernel_rfl) _ _ _ hk _ hv w
/-- a row of edges -/
def rowE (G : Gl) (t : Nat) : Array Value := #[.int .i64 (eN G (6 * t) : Nat), .int .i64 (eN G (6 * t + 1) : Nat), .int .i64 (eN G (6 * t + 2) : Nat), .int .i64 (eN G (6 * t + 3) : Nat), .int .i64 (eN G (6 * t + 4) : Nat), .int .i64 (eN G (6 * t + 5) : Nat)]
theorem rowE_get (G : Gl) (t e : Nat) (he : e < 6) : (rowE G t)[e]? = some (.int .i64 (eN G (6 * t + e) : Nat)) := by
  have h : e = 0 ∨ e = 1 ∨ e = 2 ∨ e = 3 ∨ e = 4 ∨ e = 5 := by omega
  rcases h with rfl | rfl | rfl | rfl | rfl | rfl <;> rfl
/-- the slots that the loop over a row leaves alone -/
structure KpR (t t' : Array Value) : Prop where
  size : t'.size = 190
  k0 : t'[0]? = t[0]?
  k3 : t'[3]? = t[3]?
  k6 : t'[6]? = t[6]?
  k13 : t'[13]? = t[13]?
  k137 : t'[137]? = t[137]?
  k138 : t'[138]? = t[138]?
  k139 : t'[139]? = t[139]?
theorem KpR.trans {a b c : Array Value} (h : KpR a b) (g : KpR b c) : KpR a c :=
  ⟨g.size, g.k0.trans h.k0, g.k3.trans h.k3, g.k6.trans h.k6, g.k13.trans h.k13, g.k137.trans h.k137, g.k138.trans h.k138, g.k139.trans h.k139⟩
/-- the loop over a row -/
def kRowLoop (f : Func) : Code := cIn (cR (cR (kRow f)))

set_option maxRecDepth 100000 in
set_option maxHeartbeats 4000000 in
theorem row_walk {G : Gl} (hok : checkB G = true) {W0 : World} {B Cv B' X mb : Nat} {v pv bv : Value} {vv ev tv lv : Value} {dB rB sh : Nat} {f g : Nat → Nat → Int} (hCV : CV W0 B Cv B' X mb v pv bv G vv ev tv lv dB rB sh f g) (hBw : B ≤ W0.heap.size) (hf : InSh (nF G) sh f) (hg : InSh (nF G) sh g) (hsh : sh ≤ 24)
    (hGl : GlAt W0.heap.size W0 v G) {Bq M N0 : Nat} (hq : W0.cell? ⟨Bq, 0, none⟩ = some (.int .i64 (sh : Int))) (hN0 : N0 ≤ W0.heap.size) (hM : W0.heap.size ≤ M) {t : Nat} (ht : t < G.n)
    (tm : Array Value) (ds : List Deferred) (W : World) (hs : tm.size = 190) (s0 : tm[0]? = some (.pointer (some ⟨X, 0, none⟩))) (s3 : tm[3]? = some (.pointer (some ⟨Bq, 0, none⟩))) (s6 : tm[6]? = some (.pointer (some ⟨Cv, 0, none⟩)))
    (s13 : tm[13]? = some (.slice (some ⟨M, 0, none⟩) (nE G) (nE G))) (s14 : tm[14]? = some (.int .i64 (t : Int))) (s144 : tm[144]? = some (.agg (rowE G t))) (s145 : tm[145]? = some (.int .i64 0)) (hJ : JW W0 W M N0 ds G f g sh (6 * t)) {Q : Exit → Act → World → Prop}
    (hdone : ∀ tm' ds' W', KpR tm tm' → JW W0 W' M N0 ds' G f g sh (6 * (t + 1)) → Q (.exit 8) { tmps := tm', defers := ds' } W')
    (hpan : ∀ tm' ds' W', Marks ds' W' N0 → Below W0.heap.size W0 W' → ¬ ringsTo G f g sh (6 * G.n) → Q (.panic [{ v := noCov, recovered := false }]) { tmps := tm', defers := ds' } W') :
    (kRowLoop Try.f85).wp Try.prog Q { tmps := tm, defers := ds } W := by
  refine of_loop rfl ?_
  have hn : G.n ≤ 1000 := by simp only [checkB, Bool.and_eq_true, decide_eq_true_eq] at hok; exact hok.1
  have HQ := Lib.hid (And.intro hdone hpan)
  have HC := Lib.hid (And.intro hok (And.intro hCV (And.intro hf (And.intro hg (And.intro hGl hq)))))
  have HS := Lib.hid (And.intro hs (And.intro s0 (And.intro s3 (And.intro s6 (And.intro s13 (And.intro s14 s144))))))
  clear hdone hpan hok hCV hf hg hGl hq
  refine wp_loop_ghost (fun n a W => ∃ e : Nat, e ≤ 6 ∧ n = 6 - e ∧ KpR tm a.tmps ∧ a.tmps[14]? = some (.int .i64 (t : Int)) ∧ a.tmps[144]? = some (.agg (rowE G t)) ∧ a.tmps[145]? = some (.int .i64 (e : Int)) ∧ JW W0 W M N0 a.defers G f g sh (6 * t + e)) 6 ⟨0, by omega, rfl, ⟨hs, rfl, rfl, rfl, rfl, rfl, rfl, rfl⟩, s14, s144, s145, hJ⟩ ?_
  clear s0 s3 s6 s13 s14 s144 s145 hs hJ
  rintro n ⟨tm', ds'⟩ W ⟨e, he, rfl, hK, s14, s144, s145, hJ⟩
  obtain ⟨hs, s0, s3, s6, s13, -, -⟩ := HS.out
  rw [← hK.k0] at s0
  rw [← hK.k3] at s3
  rw [← hK.k6] at s6
  rw [← hK.k13] at s13
  obtain ⟨u, hu, -⟩ := frame190 tm' hK.size
  simp only at hu
  subst hu
  have e0 : u 0 = .pointer (some ⟨X, 0, none⟩) := Option.some.inj s0
  have e3 : u 3 = .pointer (some ⟨Bq, 0, none⟩) := Option.some.inj s3
  have e6 : u 6 = .pointer (some ⟨Cv, 0, none⟩) := Option.some.inj s6
  have e13 : u 13 = .slice (some ⟨M, 0, none⟩) (nE G) (nE G) := Option.some.inj s13
  have e14 : u 14 = .int .i64 (t : Int) := Option.some.inj s14
  have e144 : u 144 = .agg (rowE G t) := Option.some.inj s144
  have e145 : u 145 = .int .i64 (e : Int) := Option.some.inj s145
  have HK := Lib.hid (And.intro hK hJ)
  clear hK s0 s3 s6 s13 s14 s144 s145 hs
  rcases Nat.lt_or_ge e 6 with he6 | he6
  · obtain ⟨k, hk⟩ : ∃ k, k = eN G (6 * t + e) := ⟨_, rfl⟩
    have hkn : k < nE G := by rw [hk]; exact eN_lt' HC.out.1 (by omega)
    have hmk := hJ.met.cell hkn
    have fmk := hJ.met.frozen k
    have hix := fun w => P162_index (rowE G t) e _ (rowE_get G t e he6) he6 w
    rw [← hk] at hix
    have hkk := Lib.hid hk
    have k0 : 0 ≤ (k : Int) := by omega
    have kn : (k : Int) < (nE G : Int) := by omega
    cases hmet : metB G (6 * t + e) k with
    | true =>
      have hm2 := Lib.hid hmet
      rw [hmet] at hmk
      clear hJ hk hmet
      go_wp2
      obtain ⟨hK, hJ⟩ := HK.out
      have hsk : ringsTo G f g sh (6 * t + e + 1) := ringsTo_skip hJ.rings (by rw [← hkk.out]; exact hm2.out)
      refine ⟨6 - (e + 1), by omega, e + 1, by omega, rfl, hK.trans ⟨rfl, congrArg some e0.symm, congrArg some e3.symm, congrArg some e6.symm, congrArg some e13.symm, rfl, rfl, rfl⟩, by simp, hJ.bel, hJ.met.congr (fun j hj => ?_), hJ.marks, hsk⟩
      rw [show 6 * t + (e + 1) = 6 * t + e + 1 by omega, metB_succ]
      by_cases h : eN G (6 * t + e) = j
      · rw [← h, ← hkk.out, hm2.out]; rfl
      · simp [h]
    | false =>
      have hm2 := Lib.hid hmet
      rw [hmet] at hmk
      clear hmet
      have h26 : JW W0 (W.setCell ⟨M, k, none⟩ (.bool true)) M N0 ds' G f g sh (6 * t + e) ∨ True := .inr trivial
      have hg26 := grownBy_setCell W M k (.bool true)
      have b26 : Below W0.heap.size W0 (W.setCell ⟨M, k, none⟩ (.bool true)) := hJ.bel.setCell hM _
      have m26 : (W.setCell ⟨M, k, none⟩ (.bool true)).rowIs M 4 (nE G) (fun j => .bool (metB G (6 * t + (e + 1)) j)) := (hJ.met.set k _).congr (fun j hj => by
        rw [show 6 * t + (e + 1) = 6 * t + e + 1 by omega, metB_succ, ← hk]
        by_cases h : j = k
        · simp [h]
        · have : (k == j) = false := by simp; omega
          simp [h, this])
      have k26 : Marks ds' (W.setCell ⟨M, k, none⟩ (.bool true)) N0 := hJ.marks.kept (fun r _ hr => (hg26.block r (Array.getElem?_eq_some_iff.1 hr).1 (fun q => by
        cases q
        obtain ⟨c, hc, _⟩ := hJ.met
        rw [hc] at hr; cases hr)).trans hr)
      have cX : (W.setCell ⟨M, k, none⟩ (.bool true)).drew.cell? ⟨X, 0, none⟩ = some v := (b26.cell (p := ⟨X, 0, none⟩) HC.out.2.1.sp.lt).trans HC.out.2.1.sp.c0
      have lX : X < (W.setCell ⟨M, k, none⟩ (.bool true)).drew.heap.size := lt_of_cell cX
      have H26 := Lib.hid (And.intro hg26 (And.intro b26 (And.intro m26 (And.intro k26 hJ.rings))))
      have hF := fun W => frame_walk e he6 W
      have hRg : ∀ W, GlAt W.heap.size W v G → Calls Try.prog 117 #[.agg #[v], .int .i64 (t : Int), .agg #[.int .i64 (frC e 4 0 : Nat), .int .i64 (frC e 4 1 : Nat), .int .i64 (frC e 4 2 : Nat), .int .i64 (frC e 4 3 : Nat)]] W (RingAns G (frS t e) W) := fun W h => Ring_walk HC.out.1 (frS_ok ht he6) v W h
      have HF := Lib.hid (And.intro hF hRg)
      clear hJ hk hg26 b26 m26 k26 hF hRg h26
      go_wp2
      generalize hW26 : W.setCell ⟨M, k, none⟩ (.bool true) = W26 at *
      clear hW26
      go_region_held3 (fun w' => w'.cell? ⟨X, 0, none⟩ = some v)
        (first
          | exact cX
          | exact (H1.out.cell (p := ⟨X, 0, none⟩) (by exact lX)).trans cX
          | exact (H2.out.cell (p := ⟨X, 0, none⟩) (by exact Nat.lt_of_lt_of_le lX H1.out.size)).trans ((H1.out.cell (p := ⟨X, 0, none⟩) (by exact lX)).trans cX))
        (first
          | (go_at_call 118; (with_reducible refine (HF.out.1 _).mono ?_); rintro e1 w1 ⟨rfl, hb1⟩; have H1 := Lib.hid hb1; have hG1 : GlAt w1.heap.size w1 v G := (HC.out.2.2.2.2.1.below ((below_dr H26.out.2.1).trans (hb1.mono H26.out.2.1.size))).mono (Nat.le_trans H26.out.2.1.size hb1.size); clear hb1)
          | (go_at_call 117; (with_reducible refine (HF.out.2 _ hG1).mono ?_); rintro e2 w2 ⟨hb2, rv, cl, rfl, hcl, hop⟩; have H2 := Lib.hid hb2; have H3 := Lib.hid (And.intro hcl hop); clear hb2 hcl hop))
      have hg2 : W26.grownBy w2 none := grownBy_trans (grownBy_drew W26 none) (grownBy_trans (below_grown H1.out (Nat.le_refl _) none) (below_grown H2.out (Nat.le_refl _) none))
      have b2 : Below W0.heap.size W0 w2 := H26.out.2.1.grown hg2 H26.out.2.1.size (fun k h => by cases h)
      have m2 := rowIs_kept H26.out.2.2.1 hg2 (by simp)
      have k2 := H26.out.2.2.2.1.grown hg2
      have HJ := Lib.hid (And.intro b2 (And.intro m2 k2))
      have cq := (b2.cell (p := ⟨Bq, 0, none⟩) (lt_of_cell HC.out.2.2.2.2.2)).trans HC.out.2.2.2.2.2
      clear hg2 b2 m2 k2
      cases cl with
      | false =>
        obtain ⟨m, hm⟩ := H3.out.2 rfl
        have HO := Lib.hid hm
        clear hm
        go_wp2
        exact ⟨6 - (e + 1), by omega, e + 1, by omega, rfl, HK.out.1.trans ⟨rfl, congrArg some e0.symm, congrArg some e3.symm, congrArg some e6.symm, congrArg some e13.symm, rfl, rfl, rfl⟩, by simp, HJ.out.1, HJ.out.2.1, HJ.out.2.2, ringsTo_succ he6 H26.out.2.2.2.2 (ring_open HO.out)⟩
      | true =>
        obtain ⟨m, hm0, hm1, hmin, hown⟩ := H3.out.1 rfl
        obtain ⟨ra, rp0, rfl⟩ := ownsRow_form hown
        have HO := Lib.hid (And.intro hm0 (And.intro hm1 (And.intro hmin hown)))
        clear hm0 hm1 hmin hown H3
        go_wp2
        have hl : (pth G 2 (frS t e) m).length = m := pth_len (ring_all HO.out.2.1)
        have hx : ∀ x ∈ pth G 2 (frS t e) m, Rok G.n x := fun x hx => by
          obtain ⟨i, _, hi⟩ := List.mem_filterMap.1 hx
          exact itr_ok HC.out.1 (frS_ok ht he6) hi
        have hml := ring_len HC.out.1 (frS_ok ht he6) HO.out.2.1 HO.out.2.2.1
        have hbs := HJ.out.1.size
        refine sheets_walk HC.out.1 (HC.out.2.1.below hBw HJ.out.1) (by omega) HC.out.2.2.1 HC.out.2.2.2.1 hsh hx (by rw [hl]; omega) (K := w1.heap.size) (rv := .slice ra m rp0) (by rw [hl]; exact HO.out.2.2.2) (Bq := Bq) (N0 := N0) cq (by omega) _ _ rfl rfl rfl rfl rfl rfl HJ.out.2.2 ?_ ?_
        · rintro tm2 ds2 W2 hK2 hM2 hb2 hgood
          obtain ⟨u2, hu2, -⟩ := frame190 tm2 hK2.size
          simp only at hu2
          subst hu2
          have i0 : u2 0 = .pointer (some ⟨X, 0, none⟩) := Option.some.inj hK2.k0
          have i3 : u2 3 = .pointer (some ⟨Bq, 0, none⟩) := Option.some.inj hK2.k3
          have i6 : u2 6 = .pointer (some ⟨Cv, 0, none⟩) := Option.some.inj hK2.k6
          have i13 : u2 13 = .slice (some ⟨M, 0, none⟩) (nE G) (nE G) := Option.some.inj hK2.k13
          have i145 : u2 145 = .int .i64 (e : Int) := Option.some.inj hK2.k145
          have HK2 := Lib.hid (And.intro hK2 (And.intro hM2 (And.intro hb2 hgood)))
          clear hK2 hM2 hb2 hgood hml hbs hl hx
          go_wp2
          have hg3 := below_grown HK2.out.2.2.1 (Nat.le_refl _) none
          refine ⟨6 - (e + 1), by omega, e + 1, by omega, rfl, HK.out.1.trans ⟨rfl, congrArg some (i0.trans e0.symm), congrArg some (i3.trans e3.symm), congrArg some (i6.trans e6.symm), congrArg some (i13.trans e13.symm), HK2.out.1.k137, HK2.out.1.k138, HK2.out.1.k139⟩, HK2.out.1.k14, HK2.out.1.k144, rfl, HJ.out.1.trans (HK2.out.2.2.1.mono HJ.out.1.size), rowIs_kept HJ.out.2.1 hg3 (by simp), HK2.out.2.1, ringsTo_succ he6 H26.out.2.2.2.2 (fun m' h0 h1 h2 => ?_)⟩
          obtain rfl := ring_uniq HO.out.1 h0 HO.out.2.1 HO.out.2.2.1 h1 h2
          have hgd := HK2.out.2.2.2
          rw [pth_len (ring_all HO.out.2.1)] at hgd
          exact hgd
        · rintro tm2 ds2 W2 hM2 hb2 ⟨i, hi, hbad⟩
          have hp := HQ.out.2 tm2 ds2 W2 hM2 (HJ.out.1.trans (hb2.mono (by omega))) (fun hall => by
            have hq2 : firstE G (6 * t + e) := metB_first.1 (by rw [← hkk.out]; exact hm2.out)
            have hr := hall (6 * t + e) (by omega) hq2
            rw [show (6 * t + e) / 6 = t by omega, show (6 * t + e) % 6 = e by omega] at hr
            rw [hl] at hbad
            exact hbad (hr m HO.out.1 HO.out.2.1 HO.out.2.2.1 i hi))
          go_wp2
          exact hp
  · obtain rfl : e = 6 := by omega
    clear hJ
    go_wp2
    exact HQ.out.1 _ _ _ (HK.out.1.trans ⟨rfl, congrArg some e0.symm, congrArg some e3.symm, congrArg some e6.symm, congrArg some e13.symm, rfl, rfl, rfl⟩) HK.out.2
end Go.Proofs.Ytlckpgahijlmoaa
/- cover's checked: all edges, and the return. -/
namespace Go.Proofs.Ytlckpgahijlmoaa
open Go.RowKit Go.Shelf Go.Maps
attribute [local go_sem] Oper.semAt_some

theorem of_seq {P : Program} {Q : Exit → Act → World → Prop} {a : Act} {w : World} {c b d : Code} (h : c = Code.seq b d) (hw : (Code.seq b d).wp P Q a w) : c.wp P Q a w := h ▸ hw
/-- the loop over the rows -/
def kRows (f : Func) : Code := cIn (cR (cL (cR (kTail f))))
/-- the slots that the loop over the rows leaves alone -/
structure KpT (t t' : Array Value) : Prop where
  size : t'.size = 190
  k0 : t'[0]? = t[0]?
  k3 : t'[3]? = t[3]?
  k6 : t'[6]? = t[6]?
  k13 : t'[13]? = t[13]?
  k137 : t'[137]? = t[137]?
  k138 : t'[138]? = t[138]?
theorem KpT.trans {a b c : Array Value} (h : KpT a b) (g : KpT b c) : KpT a c :=
  ⟨g.size, g.k0.trans h.k0, g.k3.trans h.k3, g.k6.trans h.k6, g.k13.trans h.k13, g.k137.trans h.k137, g.k138.trans h.k138⟩

set_option maxRecDepth 100000 in
set_option maxHeartbeats 4000000 in
theorem rows_walk {G : Gl} (hok : checkB G = true) {W0 : World} {B Cv B' X mb : Nat} {v pv bv : Value} {vv ev tv lv : Value} {dB rB sh : Nat} {f g : Nat → Nat → Int} (hCV : CV W0 B Cv B' X mb v pv bv G vv ev tv lv dB rB sh f g) (hBw : B ≤ W0.heap.size) (hf : InSh (nF G) sh f) (hg : InSh (nF G) sh g) (hsh : sh ≤ 24)
    (hGl : GlAt W0.heap.size W0 v G) {Bq M N0 : Nat} (hq : W0.cell? ⟨Bq, 0, none⟩ = some (.int .i64 (sh : Int))) (hN0 : N0 ≤ W0.heap.size) (hM : W0.heap.size ≤ M)
    (tm : Array Value) (ds : List Deferred) (W : World) (hs : tm.size = 190) (s0 : tm[0]? = some (.pointer (some ⟨X, 0, none⟩))) (s3 : tm[3]? = some (.pointer (some ⟨Bq, 0, none⟩))) (s6 : tm[6]? = some (.pointer (some ⟨Cv, 0, none⟩)))
    (s13 : tm[13]? = some (.slice (some ⟨M, 0, none⟩) (nE G) (nE G))) (s137 : tm[137]? = some ev) (s138 : tm[138]? = some (.int .i64 (G.n : Int))) (s139 : tm[139]? = some (.int .i64 0)) (hJ : JW W0 W M N0 ds G f g sh 0) {Q : Exit → Act → World → Prop}
    (hdone : ∀ tm' ds' W', KpT tm tm' → JW W0 W' M N0 ds' G f g sh (6 * G.n) → Q (.exit 6) { tmps := tm', defers := ds' } W')
    (hpan : ∀ tm' ds' W', Marks ds' W' N0 → Below W0.heap.size W0 W' → ¬ ringsTo G f g sh (6 * G.n) → Q (.panic [{ v := noCov, recovered := false }]) { tmps := tm', defers := ds' } W') :
    (kRows Try.f85).wp Try.prog Q { tmps := tm, defers := ds } W := by
  refine of_loop rfl ?_
  have hn : G.n ≤ 1000 := by simp only [checkB, Bool.and_eq_true, decide_eq_true_eq] at hok; exact hok.1
  obtain ⟨ga, cp, rfl⟩ := ownsRow_form hCV.sp.own
  have HQ := Lib.hid (And.intro hdone hpan)
  have HC := Lib.hid (And.intro hok (And.intro hCV (And.intro hf (And.intro hg (And.intro hGl hq)))))
  have HS := Lib.hid (And.intro hs (And.intro s0 (And.intro s3 (And.intro s6 (And.intro s13 (And.intro s137 s138))))))
  clear hdone hpan hok hCV hf hg hGl hq
  refine wp_loop_ghost (fun n a W => ∃ t : Nat, t ≤ G.n ∧ n = G.n - t ∧ KpT tm a.tmps ∧ a.tmps[139]? = some (.int .i64 (t : Int)) ∧ JW W0 W M N0 a.defers G f g sh (6 * t)) G.n ⟨0, by omega, rfl, ⟨hs, rfl, rfl, rfl, rfl, rfl, rfl⟩, s139, hJ⟩ ?_
  clear s0 s3 s6 s13 s137 s138 s139 hs hJ
  rintro n ⟨tm', ds'⟩ W ⟨t, ht, rfl, hK, s139, hJ⟩
  obtain ⟨hs, s0, s3, s6, s13, s137, s138⟩ := HS.out
  rw [← hK.k0] at s0
  rw [← hK.k3] at s3
  rw [← hK.k6] at s6
  rw [← hK.k13] at s13
  rw [← hK.k137] at s137
  rw [← hK.k138] at s138
  obtain ⟨u, hu, -⟩ := frame190 tm' hK.size
  simp only at hu
  subst hu
  have e0 : u 0 = .pointer (some ⟨X, 0, none⟩) := Option.some.inj s0
  have e3 : u 3 = .pointer (some ⟨Bq, 0, none⟩) := Option.some.inj s3
  have e6 : u 6 = .pointer (some ⟨Cv, 0, none⟩) := Option.some.inj s6
  have e13 : u 13 = .slice (some ⟨M, 0, none⟩) (nE G) (nE G) := Option.some.inj s13
  have e137 : u 137 = .slice ga G.n cp := Option.some.inj s137
  have e138 : u 138 = .int .i64 (G.n : Int) := Option.some.inj s138
  have e139 : u 139 = .int .i64 (t : Int) := Option.some.inj s139
  have HK := Lib.hid (And.intro hK hJ)
  clear hK s0 s3 s6 s13 s137 s138 s139 hs
  rcases Nat.lt_or_ge t G.n with htn | htn
  · obtain ⟨ge, ce, hgv, _, _⟩ := HC.out.2.1.sp.own.form (by omega)
    obtain ⟨rfl, -, rfl⟩ : ga = some ⟨ge, 0, none⟩ ∧ G.n = G.n ∧ cp = ce := by simpa using hgv
    have rowc : ∀ j, j < 6 → W.cell? ⟨ge, t * 6 + j, none⟩ = some (.int .i64 (eN G (6 * t + j) : Nat)) := fun j hj => by
      have := HC.out.2.1.sp.own.cells (g := ge) rfl (6 * t + j) _ (ints_get (eN G) (6 * G.n) (6 * t + j) (by omega))
      rw [Addr.add_mid, Nat.zero_add] at this
      rw [show t * 6 + j = 6 * t + j by omega]
      exact (hJ.bel.cell (p := ⟨ge, 6 * t + j, none⟩) (lt_of_cell this)).trans this
    have r0 := rowc 0 (by omega)
    have r1 := rowc 1 (by omega)
    have r2 := rowc 2 (by omega)
    have r3 := rowc 3 (by omega)
    have r4 := rowc 4 (by omega)
    have r5 := rowc 5 (by omega)
    rw [Nat.add_zero] at r0
    rw [Nat.add_zero] at r0
    have t0 : 0 ≤ (t : Int) := by omega
    have tn : (t : Int) < (G.n : Int) := by omega
    clear rowc hJ hgv
    go_wp2
    have hal := World.grownBy_alloc W (.cells #[.int .i64 (eN G (6 * t) : Nat), .int .i64 (eN G (6 * t + 1) : Nat), .int .i64 (eN G (6 * t + 2) : Nat), .int .i64 (eN G (6 * t + 3) : Nat), .int .i64 (eN G (6 * t + 4) : Nat), .int .i64 (eN G (6 * t + 5) : Nat)] 162) none
    have hJ := HK.out.2
    have hJa : JW W0 (W.alloc (.cells #[.int .i64 (eN G (6 * t) : Nat), .int .i64 (eN G (6 * t + 1) : Nat), .int .i64 (eN G (6 * t + 2) : Nat), .int .i64 (eN G (6 * t + 3) : Nat), .int .i64 (eN G (6 * t + 4) : Nat), .int .i64 (eN G (6 * t + 5) : Nat)] 162)) M N0 ds' G f g sh (6 * t) :=
      ⟨hJ.bel.grown hal hJ.bel.size (fun k h => by cases h), rowIs_kept hJ.met hal (by simp), hJ.marks.grown hal, hJ.rings⟩
    refine row_walk HC.out.1 HC.out.2.1 hBw HC.out.2.2.1 HC.out.2.2.2.1 hsh HC.out.2.2.2.2.1 HC.out.2.2.2.2.2 hN0 hM htn _ _ _ rfl rfl rfl rfl rfl rfl rfl rfl hJa ?_ ?_
    · rintro tm2 ds2 W2 hK2 hJ2
      obtain ⟨u2, hu2, -⟩ := frame190 tm2 hK2.size
      simp only at hu2
      subst hu2
      have i0 : u2 0 = .pointer (some ⟨X, 0, none⟩) := Option.some.inj hK2.k0
      have i3 : u2 3 = .pointer (some ⟨Bq, 0, none⟩) := Option.some.inj hK2.k3
      have i6 : u2 6 = .pointer (some ⟨Cv, 0, none⟩) := Option.some.inj hK2.k6
      have i13 : u2 13 = .slice (some ⟨M, 0, none⟩) (nE G) (nE G) := Option.some.inj hK2.k13
      have i137 : u2 137 = .slice (some ⟨ge, 0, none⟩) G.n cp := Option.some.inj hK2.k137
      have i138 : u2 138 = .int .i64 (G.n : Int) := Option.some.inj hK2.k138
      have i139 : u2 139 = .int .i64 (t : Int) := Option.some.inj hK2.k139
      have HJ2 := Lib.hid hJ2
      clear hK2 hJ2 hJ hJa hal
      go_wp2
      exact ⟨G.n - (t + 1), by omega, t + 1, by omega, rfl, HK.out.1.trans ⟨rfl, congrArg some (i0.trans e0.symm), congrArg some (i3.trans e3.symm), congrArg some (i6.trans e6.symm), congrArg some (i13.trans e13.symm), congrArg some (i137.trans e137.symm), congrArg some (i138.trans e138.symm)⟩, rfl, HJ2.out⟩
    · rintro tm2 ds2 W2 hM2 hb2 hbad
      have hp := HQ.out.2 tm2 ds2 W2 hM2 hb2 hbad
      go_wp2
      exact hp
  · obtain rfl : t = G.n := by omega
    clear hJ
    go_wp2
    exact HQ.out.1 _ _ _ (HK.out.1.trans ⟨rfl, congrArg some e0.symm, congrArg some e3.symm, congrArg some e6.symm, congrArg some e13.symm, congrArg some e137.symm, congrArg some e138.symm⟩) HK.out.2

set_option maxRecDepth 100000 in
set_option maxHeartbeats 4000000 in
/-- from the loop over the map on -/
theorem tail_walk {G : Gl} (hok : checkB G = true) {W0 : World} {B Cv B' X mb : Nat} {v pv bv : Value} {vv ev tv lv : Value} {dB rB sh : Nat} {f g : Nat → Nat → Int} (hCV : CV W0 B Cv B' X mb v pv bv G vv ev tv lv dB rB sh f g) (hBw : B ≤ W0.heap.size) (hf : InSh (nF G) sh f) (hg : InSh (nF G) sh g) (hsh : sh ≤ 24)
    (hGl : GlAt W0.heap.size W0 v G) {Bq : Nat} (hq : W0.cell? ⟨Bq, 0, none⟩ = some (.int .i64 (sh : Int)))
    (tm : Array Value) (hs : tm.size = 190) (s0 : tm[0]? = some (.pointer (some ⟨X, 0, none⟩))) (s3 : tm[3]? = some (.pointer (some ⟨Bq, 0, none⟩))) (s6 : tm[6]? = some (.pointer (some ⟨Cv, 0, none⟩))) {R : Ending → World → Prop}
    (hret : ∀ W', Below W0.heap.size W0 W' → ringsTo G f g sh (6 * G.n) → R (.returned (.pointer (some ⟨Cv, 0, none⟩))) W')
    (hpan : ∀ W', Below W0.heap.size W0 W' → ¬ ringsTo G f g sh (6 * G.n) → R (.panicked [{ v := noCov, recovered := false }]) W') :
    (kTail Try.f85).wp Try.prog (bodyPostM Fence.wide 6 Try.prog Try.f85 R) { tmps := tm, defers := [] } W0 := by
  have hn : G.n ≤ 1000 := by simp only [checkB, Bool.and_eq_true, decide_eq_true_eq] at hok; exact hok.1
  have hsz : nE G ≤ 6000 := by have := cnt_le (clsAll G).r3 (6 * G.n); unfold nE; omega
  obtain ⟨ga, cp, rfl⟩ := ownsRow_form hCV.sp.own
  have x4 := hCV.sp.c4
  have x2 := hCV.sp.c2
  obtain ⟨u, hu, -⟩ := frame190 tm hs
  simp only at hu
  subst hu
  have e0 : u 0 = .pointer (some ⟨X, 0, none⟩) := Option.some.inj s0
  have e3 : u 3 = .pointer (some ⟨Bq, 0, none⟩) := Option.some.inj s3
  have e6 : u 6 = .pointer (some ⟨Cv, 0, none⟩) := Option.some.inj s6
  clear s0 s3 s6 hs
  have hmk := run_make_row' (P := Try.prog) 51 4 (.bool false) 1 und51 info4 rfl .i64 .i64 (nE G) (by omega) (by omega)
  have x2a : ∀ o, (W0.alloc o).cell? ⟨X, 2, none⟩ = some (.slice ga G.n cp) := fun o => cell_al x2 o
  have HQ := Lib.hid (And.intro hret hpan)
  have HC := Lib.hid (And.intro hok (And.intro hCV (And.intro hf (And.intro hg (And.intro hGl hq)))))
  clear hret hpan hok hCV hf hg hGl hq
  refine of_seq rfl ?_
  go_wp2
  obtain ⟨M, hM⟩ : ∃ M, M = W0.heap.size := ⟨_, rfl⟩
  rw [← hM]
  clear hmk
  refine wp_named fun W1 hW => ?_
  have hal := World.grownBy_alloc W0 (.cells (madeCells #[.bool false] (nE G)) 4) none
  have b1 : Below W0.heap.size W0 W1 := by rw [hW]; exact (Below.refl _ _).alloc (Nat.le_refl _) _
  have m1 : W1.rowIs M 4 (nE G) (fun j => .bool (metB G 0 j)) := by rw [hW, hM]; exact (World.rowIs_made W0 (.bool false) (nE G) 4).congr (fun j _ => rfl)
  clear hW hal
  refine rows_walk HC.out.1 HC.out.2.1 hBw HC.out.2.2.1 HC.out.2.2.2.1 hsh HC.out.2.2.2.2.1 HC.out.2.2.2.2.2 (N0 := W0.heap.size) (Nat.le_refl _) (Nat.le_of_eq hM.symm) _ _ _ rfl (congrArg some e0) (congrArg some e3) (congrArg some e6) rfl rfl rfl rfl ⟨b1, m1, Marks.nil _ _, fun q hq => by omega⟩ ?_ ?_
  · rintro tm2 ds2 W2 hK2 hJ2
    obtain ⟨u2, hu2, -⟩ := frame190 tm2 hK2.size
    simp only at hu2
    subst hu2
    have i6 : u2 6 = .pointer (some ⟨Cv, 0, none⟩) := (Option.some.inj hK2.k6).trans e6
    have HJ2 := Lib.hid hJ2
    clear hK2 hJ2
    go_wp2
    refine HJ2.out.marks.leaves (by simp) HJ2.out.bel.size (fun W' hb' => ⟨.pointer (some ⟨Cv, 0, none⟩), ?_, HQ.out.1 W' (HJ2.out.bel.trans hb') HJ2.out.rings⟩)
    simp [results, Try.f85, go_sem, i6]
  · rintro tm2 ds2 W2 hM2 hb2 hbad
    exact hM2.leaves (by simp) hb2.size (fun W' hb' => HQ.out.2 W' (hb2.trans hb') hbad)
end Go.Proofs.Ytlckpgahijlmoaa
namespace Go.Proofs.Ytlckpgahijlmoaa
open Go.RowKit Go.Shelf

/-- wpStill, shut -/
@[irreducible] def wpSt (P : Program) (ops : Array Oper) (w : World) (Q : Act → Prop) (l : List Oper) (a : Act) : Prop := wpStill P ops w Q l a
theorem wpSt_out {P : Program} {ops : Array Oper} {w : World} {Q : Act → Prop} {l : List Oper} {a : Act} (h : wpSt P ops w Q l a) : wpStill P ops w Q l a := by
  unfold wpSt at h; exact h
theorem wpSt_in {P : Program} {ops : Array Oper} {w : World} {Q : Act → Prop} {l : List Oper} {a : Act} (h : wpStill P ops w Q l a) : wpSt P ops w Q l a := by
  unfold wpSt; exact h
theorem wpSt_nil {P : Program} {ops : Array Oper} {w : World} {Q : Act → Prop} {a : Act} (h : Q a) : wpSt P ops w Q [] a := wpSt_in h
theorem wpSt_step {P : Program} {ops : Array Oper} {w : World} {Q : Act → Prop} {a : Act} {o : Oper} {rest : List Oper} (h : ∀ K : Act → Prop, (∀ a, wpSt P ops w Q rest a → K a) → if Region.wanted o (yielded ops a.tmps) then o.still P a w K else K (a.put o.dst undef)) : wpSt P ops w Q (o :: rest) a :=
  wpSt_in (h _ fun _ h => wpSt_out h)
theorem region_tail2 {P : Program} {id : Nat} {Q : Exit → Act → World → Prop} {a : Act} {w : World} {l : List Oper} (n : Nat) (hm : P.follows .mixedOrders = true) (hB : Region.lexTailB .any l.toArray n = true)
    (h : ∀ Q2 : Act → Prop, (∀ a', wpList P l.toArray Q (l.drop n) a' w.drew → Q2 a') → wpSt P l.toArray w.drew Q2 (l.take n) a) : (Code.region id l.toArray true).wp P Q a w := region_tail n hm hB (wpSt_out (h _ fun _ h => h))
end Go.Proofs.Ytlckpgahijlmoaa
