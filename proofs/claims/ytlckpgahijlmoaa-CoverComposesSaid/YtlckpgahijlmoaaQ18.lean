/- R11's Same of equal coverings. No condition. -/
import Derived.Test.YtlckpgahijlmoaaQ17
import Derived.Test.YtlckpgahijlmoaaQ13
import Derived.Test.YtlckpgahijlmoaaQ16
import Derived.Test.YtlckpgahijlmoaaQ14
/- cover's cross: the sheet behind a face. -/
namespace Go.Proofs.Ytlckpgahijlmoaa
open Go.RowKit Go.Shelf Go.Maps

/-- a slice of slices of numbers in memory -/
def LLs (B : Nat) (W : World) (v : Value) (n : Nat) (len : Nat → Nat) (f : Nat → Nat → Int) : Prop :=
  ∃ a b off cap, v = .slice a n cap ∧ (0 < n → a = some ⟨b, off, none⟩ ∧ b < B) ∧ ∀ k, k < n → ∃ rv, W.cell? ⟨b, off + k, none⟩ = some rv ∧ SI B W rv (len k) (f k)
theorem LLs.below {B : Nat} {W W' : World} {v : Value} {n : Nat} {len : Nat → Nat} {f : Nat → Nat → Int} (h : LLs B W v n len f) (hb : Below B W W') : LLs B W' v n len f := by
  obtain ⟨a, b, off, cap, rfl, h1, h2⟩ := h
  refine ⟨a, b, off, cap, rfl, h1, fun k hk => ?_⟩
  obtain ⟨rv, h3, h4⟩ := h2 k hk
  exact ⟨rv, (hb.cell (p := ⟨b, off + k, none⟩) (h1 (by omega)).2).trans h3, h4.below hb⟩
theorem LLs.mono {B B' : Nat} {W : World} {v : Value} {n : Nat} {len : Nat → Nat} {f : Nat → Nat → Int} (h : LLs B W v n len f) (hB : B ≤ B') : LLs B' W v n len f := by
  obtain ⟨a, b, off, cap, rfl, h1, h2⟩ := h
  refine ⟨a, b, off, cap, rfl, fun k => ⟨(h1 k).1, by have := (h1 k).2; omega⟩, fun k hk => ?_⟩
  obtain ⟨rv, h3, h4⟩ := h2 k hk
  exact ⟨rv, h3, h4.mono hB⟩
/-- a covering in memory: its space, its permutations and their inverses -/
structure CV (W : World) (B Cv B' X mb : Nat) (v pv bv : Value) (G : Gl) (vv ev tv lv : Value) (dB rB sh : Nat) (f g : Nat → Nat → Int) : Prop where
  c0 : W.cell? ⟨Cv, 0, none⟩ = some (.pointer (some ⟨X, 0, none⟩))
  c1 : W.cell? ⟨Cv, 1, none⟩ = some (.int .i64 (sh : Int))
  c2 : W.cell? ⟨Cv, 2, none⟩ = some pv
  c3 : W.cell? ⟨Cv, 3, none⟩ = some bv
  sp : SP W B' X mb v G (4 * G.n) vv ev tv lv dB rB
  pl : LLs B W pv (nF G) (fun _ => sh) f
  bl : LLs B W bv (nF G) (fun _ => sh) g
theorem CV.below {W W' : World} {B Cv B' X mb : Nat} {v pv bv : Value} {G : Gl} {vv ev tv lv : Value} {dB rB sh : Nat} {f g : Nat → Nat → Int} (hB : B ≤ W.heap.size) (h : CV W B Cv B' X mb v pv bv G vv ev tv lv dB rB sh f g) (hb : Below W.heap.size W W') : CV W' B Cv B' X mb v pv bv G vv ev tv lv dB rB sh f g := by
  have hg := below_grown hb (Nat.le_refl _) none
  exact ⟨hg.cell h.c0 (by simp), hg.cell h.c1 (by simp), hg.cell h.c2 (by simp), hg.cell h.c3 (by simp), h.sp.below hb, h.pl.below (hb.mono hB), h.bl.below (hb.mono hB)⟩
/-- the sheet behind the face f of t, from a sheet on -/
def crF (G : Gl) (f g : Nat → Nat → Int) (t fc i : Nat) : Int := if (fD G (4 * G.n) (t, fc)).isSome then f (fN G (4 * t + fc)) i else g (fN G (4 * t + fc)) i

set_option maxRecDepth 20000 in
set_option maxHeartbeats 1000000 in
theorem cross_walk {G : Gl} (hok : checkB G = true) {w : World} {B Cv B' X mb : Nat} {v pv bv : Value} {vv ev tv lv : Value} {dB rB sh : Nat} {f g : Nat → Nat → Int} (h : CV w B Cv B' X mb v pv bv G vv ev tv lv dB rB sh f g) (t fc i : Nat) (ht : t < G.n) (hf : fc < 4) (hi : i < sh) :
    Calls Try.prog 56 #[.pointer (some ⟨Cv, 0, none⟩), .int .i64 (t : Int), .int .i64 (fc : Int), .int .i64 (i : Int)] w fun e w' => e = .returned (.int .i64 (crF G f g t fc i)) ∧ Below w.heap.size w w' := by
  have hn : G.n ≤ 1000 := by simp only [checkB, Bool.and_eq_true, decide_eq_true_eq] at hok; exact hok.1
  have hk := fN_lt hok (show 4 * t + fc < 4 * G.n by omega)
  obtain ⟨gt, ct, htv, _, _⟩ := h.sp.twn.form (by omega)
  subst htv
  have hrow : w.cell? ⟨gt, t * 4 + fc, none⟩ = some (.int .i64 (fN G (4 * t + fc) : Nat)) := by
    have := h.sp.twn.cells (g := gt) rfl (4 * t + fc) _ (ints_get (fN G) (4 * G.n) (4 * t + fc) (by omega))
    rw [Addr.add_mid, Nat.zero_add] at this
    rw [show t * 4 + fc = 4 * t + fc by omega]; exact this
  obtain ⟨nn, hmap⟩ := h.sp.map
  have hlk := hmap.look codes83 und78 (zero3 _) true (t, fc) ⟨by show t < _; omega, by show fc < _; omega⟩
  simp only [if_true] at hlk
  obtain ⟨pa, pb, po, pc, rfl, hp1, hp2⟩ := h.pl
  obtain ⟨rfl, hpB⟩ := hp1 (by omega)
  obtain ⟨prv, hp3, hp4⟩ := hp2 _ hk
  obtain ⟨pra, prb, pro, prc, rfl, hpr1, hpr2⟩ := hp4
  obtain ⟨rfl, _⟩ := hpr1 (by show 0 < sh; omega)
  have hpx := hpr2 i hi
  obtain ⟨ba, bb, bo, bc, rfl, hb1, hb2⟩ := h.bl
  obtain ⟨rfl, hbB⟩ := hb1 (by omega)
  obtain ⟨brv, hb3, hb4⟩ := hb2 _ hk
  obtain ⟨bra, brb, bro, brc, rfl, hbr1, hbr2⟩ := hb4
  obtain ⟨rfl, _⟩ := hbr1 (by show 0 < sh; omega)
  have hbx := hbr2 i hi
  have x0 := h.c0
  have x2 := h.c2
  have x3 := h.c3
  have s3 := h.sp.c3
  have s7 := h.sp.c7
  obtain ⟨r, hr⟩ : ∃ r, r = crF G f g t fc i := ⟨_, rfl⟩
  unfold crF at hr
  obtain ⟨k, hke⟩ : ∃ k, k = fN G (4 * t + fc) := ⟨_, rfl⟩
  rw [← hke] at hrow hk hp3 hb3 hpx hbx hr
  have hlk2 : (Instr.lookup 78 (.map (some mb)) (.agg #[.int .i64 (t : Int), .int .i64 (fc : Int)]) true).run Try.prog w = .ok (.tuple #[(fD G (4 * G.n) (t, fc)).elim (.int .i64 0) vi, .bool (fD G (4 * G.n) (t, fc)).isSome]) w := hlk
  have hres := Lib.hid (show r = crF G f g t fc i by rw [hr]; unfold crF; rw [hke])
  generalize hD : fD G (4 * G.n) (t, fc) = Dv at *
  generalize nF G = nf at *
  generalize f k i = fx at *
  generalize g k i = gx at *
  have t0 : 0 ≤ (t : Int) := by omega
  have tn : (t : Int) < (G.n : Int) := by omega
  have c0 : 0 ≤ (fc : Int) := by omega
  have c4 : (fc : Int) < 4 := by omega
  have k0 : 0 ≤ (k : Int) := by omega
  have kn : (k : Int) < (nf : Int) := by omega
  have i0 : 0 ≤ (i : Int) := by omega
  have is : (i : Int) < (sh : Int) := by omega
  clear hp1 hp2 hpr1 hpr2 hb1 hb2 hbr1 hbr2 hlk hmap h hke hD
  cases Dv with
  | none =>
    simp only [Option.isSome_none, Bool.false_eq_true, if_false] at hr
    simp only [Option.elim, Option.isSome_none] at hlk2
    subst hr
    go_enter Try.func56, Try.ntmps56
    go_wp2
    go_ret
    exact ⟨by rw [← hres.out]; rfl, Below.refl _ _⟩
  | some z =>
    simp only [Option.isSome_some, if_true] at hr
    simp only [Option.elim, Option.isSome_some] at hlk2
    subst hr
    go_enter Try.func56, Try.ntmps56
    go_wp2
    go_ret
    exact ⟨by rw [← hres.out]; rfl, Below.refl _ _⟩
end Go.Proofs.Ytlckpgahijlmoaa
/- Comparing lists: SameInts, SameLists. No condition. -/
namespace Go.Proofs.Ytlckpgahijlmoaa
open Go.RowKit Go.Shelf

def sameB (n : Nat) (f : Nat → Int) (m : Nat) (g : Nat → Int) : Bool := n == m && (List.range n).all (fun i => f i == g i)
theorem all_range_false {p : Nat → Bool} {n k : Nat} (hk : k < n) (h : p k = false) : (List.range n).all p = false := by
  cases hq : (List.range n).all p with
  | false => rfl
  | true =>
    have := List.all_eq_true.1 hq k (List.mem_range.2 hk)
    rw [h] at this; cases this
set_option maxRecDepth 20000 in
set_option maxHeartbeats 1000000 in
theorem SameInts_walk (n m : Nat) (f g : Nat → Int) (hn : n < 4611686018427387904) (B : Nat) (w : World) (v u : Value) (hv : SI B w v n f) (hu : SI B w u m g) :
    Calls Try.prog 31 #[v, u] w fun e w' => e = .returned (.bool (sameB n f m g)) ∧ Below w.heap.size w w' := by
  obtain ⟨a, b, off, cap, rfl, ha, hc⟩ := hv
  obtain ⟨a', b', off', cap', rfl, ha', hc'⟩ := hu
  have HC := Lib.hid (And.intro ha (And.intro hc (And.intro ha' hc'))); clear ha hc ha' hc'
  by_cases hnm : n = m
  · subst hnm
    have hbe := natbeq_true (rfl : n = n)
    go_enter Try.func31, Try.ntmps31
    go_wp2
    go_loopw [5] (fun i wr => ∃ k : Nat, k ≤ n ∧ i = .int .i64 k ∧ (List.range k).all (fun i => f i == g i) = true ∧ Below w.heap.size w wr ∧ (∀ p : Addr, wr.cell? p = w.cell? p)) (fun i _ => n - (intOf i).toNat)
    case atStart => exact ⟨0, by omega, rfl, rfl, Below.refl _ _, fun _ => rfl⟩
    case round =>
      obtain ⟨k, hk, rfl, hall, hb, hcell⟩ := hrel
      have HK := Lib.hid (And.intro hall (And.intro hb hcell))
      rcases Nat.lt_or_ge k n with hkn | hkn
      · obtain ⟨ha, hc, ha', hc'⟩ := HC.out
        obtain ⟨rfl, _⟩ := ha (by omega)
        obtain ⟨rfl, _⟩ := ha' (by omega)
        have x := (hcell ⟨b, off + k, none⟩).trans (hc k hkn)
        have y := (hcell ⟨b', off' + k, none⟩).trans (hc' k hkn)
        have k0 : 0 ≤ (k : Int) := by omega
        have kn : (k : Int) < (n : Int) := by omega
        clear hall hb hcell ha hc ha' hc'
        obtain ⟨X, hX⟩ : ∃ X, X = f k := ⟨_, rfl⟩
        obtain ⟨Y, hY⟩ : ∃ Y, Y = g k := ⟨_, rfl⟩
        rw [← hX] at x
        rw [← hY] at y
        have HXY := Lib.hid (And.intro hX hY); clear hX hY
        by_cases hq : X = Y
        · subst hq
          go_wp2
          go_still (by kernel_rfl)
          go_wp2
          go_roundw
          case rel =>
            refine ⟨k + 1, by omega, rfl, ?_, below_dr HK.out.2.1, fun p => HK.out.2.2 p⟩
            rw [List.range_succ, List.all_append, HK.out.1]
            simp [← HXY.out.1, ← HXY.out.2]
          case measure => simp [intOf]; omega
        · have hqq : (X != Y) = true := by simpa using hq
          have HQ := Lib.hid hq; clear hq
          go_wp2
          go_still (by kernel_rfl)
          go_wp2
          go_ret
          refine ⟨?_, below_dr HK.out.2.1⟩
          rw [sameB, all_range_false hkn (by rw [← HXY.out.1, ← HXY.out.2]; simpa using HQ.out), Bool.and_false]
          rfl
      · obtain rfl : k = n := by omega
        clear hall hb hcell
        go_wp2
        go_ret
        refine ⟨?_, HK.out.2.1⟩
        rw [sameB, HK.out.1]
        simp
  · have hbe : ((n : Int) != (m : Int)) = true := by simp; omega
    have HN := Lib.hid hnm; clear hnm
    go_enter Try.func31, Try.ntmps31
    go_wp2
    go_ret
    refine ⟨?_, Below.refl _ _⟩
    have : (n == m) = false := by simpa using HN.out
    rw [sameB, this, Bool.false_and]
    rfl

end Go.Proofs.Ytlckpgahijlmoaa
/- R08.CopyInts: lists with memory of their own. Rows of at most 2^40 numbers, at most 1000 rows. -/
namespace Go.Proofs.Ytlckpgahijlmoaa
open Go.RowKit Go.Shelf

theorem und26 : Try.prog.underlying 26 = some (.slice 35) := by kernel_rfl
theorem info35 : (Try.prog.info? 35).map (fun i => (i.zero, i.size, i.bytes)) = some (some (.slice none 0 0), 1, 24) := by kernel_rfl
/-- the rows copied so far -/
structure CI (W : World) (K : Nat) (v : Value) (k : Nat) (xs : List Value) (len : Nat → Nat) (f : Nat → Nat → Int) : Prop where
  own : W.ownsRow K 35 1 v k xs
  row : ∀ j, j < k → ∃ a d cap, xs[j]? = some (.slice a (len j) cap) ∧ (0 < len j → a = some ⟨d, 0, none⟩ ∧ K ≤ d ∧ d < W.heap.size ∧ v.ownBlock ≠ some d) ∧ ∀ i, i < len j → W.cell? ⟨d, i, none⟩ = some (.int .i64 (f j i))
/-- one row more: r was made, then appended -/
theorem CI.push {W W2 w2 : World} {K : Nat} {v : Value} {k : Nat} {xs : List Value} {len : Nat → Nat} {f : Nat → Nat → Int} {a : Option Addr} {d cap g gc : Nat} (h : CI W K v k xs len f) (hg : W.grownBy W2 none)
    (hr : 0 < len k → a = some ⟨d, 0, none⟩ ∧ K ≤ d ∧ d < W2.heap.size ∧ W.heap.size ≤ d) (hc : ∀ i, i < len k → W2.cell? ⟨d, i, none⟩ = some (.int .i64 (f k i)))
    (hown : w2.ownsRow K 35 1 (.slice (some ⟨g, 0, none⟩) (k + 1) gc) (k + 1) (xs ++ [.slice a (len k) cap]))
    (hgrow : W2.grownBy w2 v.ownBlock) (hat : v.ownBlock = some g ∨ g = W2.heap.size) : CI w2 K (.slice (some ⟨g, 0, none⟩) (k + 1) gc) (k + 1) (xs ++ [.slice a (len k) cap]) len f := by
  have hxl := h.own.1
  have hob : ∀ j, v.ownBlock = some j → j < W.heap.size := fun j hj => (h.own.lt j hj).2
  refine ⟨hown, fun j hj => ?_⟩
  by_cases e : j = k
  · subst e
    refine ⟨a, d, cap, by rw [List.getElem?_append_right (by omega), show j - xs.length = 0 by omega]; rfl, fun hp => ?_, fun i hi => hgrow.cell (hc i hi) ?_⟩
    · obtain ⟨r1, r2, r3, r4⟩ := hr hp
      refine ⟨r1, r2, Nat.lt_of_lt_of_le r3 hgrow.size, ?_⟩
      simp only [Value.ownBlock, ne_eq, Option.some.injEq]
      intro q
      rcases hat with z | z
      · subst q; have := hob _ z; omega
      · omega
    · intro q
      have := (hr (by omega)).2.2.2
      have := hob _ q.symm
      simp only at this; omega
  · obtain ⟨a', d', cap', e1, h3, h4⟩ := h.row j (by omega)
    refine ⟨a', d', cap', by rw [List.getElem?_append_left (by omega)]; exact e1, fun hp => ?_, fun i hi => hgrow.cell (hg.cell (h4 i hi) (by simp)) (fun q => (h3 (by omega)).2.2.2 q.symm)⟩
    obtain ⟨r1, r2, r3, r4⟩ := h3 hp
    refine ⟨r1, r2, Nat.lt_of_lt_of_le (Nat.lt_of_lt_of_le r3 hg.size) hgrow.size, ?_⟩
    simp only [Value.ownBlock, ne_eq, Option.some.injEq]
    intro q
    rcases hat with z | z
    · subst q; exact r4 z
    · have := hg.size; omega
theorem CI.LLs {W : World} {K : Nat} {v : Value} {k : Nat} {xs : List Value} {len : Nat → Nat} {f : Nat → Nat → Int} (h : CI W K v k xs len f) : LLs W.heap.size W v k len f := by
  have row : ∀ j, j < k → ∃ rv, xs[j]? = some rv ∧ SI W.heap.size W rv (len j) (f j) := fun j hj => by
    obtain ⟨a, d, cap, e, h3, h4⟩ := h.row j hj
    exact ⟨_, e, a, d, 0, cap, rfl, fun hp => ⟨(h3 hp).1, (h3 hp).2.2.1⟩, fun i hi => by rw [Nat.zero_add]; exact h4 i hi⟩
  rcases h.own.2 with ⟨rfl, rfl⟩ | ⟨g, cap, cur, rfl, _, hgg, _⟩
  · exact ⟨none, 0, 0, 0, rfl, fun h => by omega, fun j hj => by omega⟩
  · refine ⟨_, g, 0, cap, rfl, fun _ => ⟨rfl, (Array.getElem?_eq_some_iff.1 hgg).1⟩, fun j hj => ?_⟩
    obtain ⟨rv, e, hs⟩ := row j hj
    refine ⟨rv, ?_, hs⟩
    have := h.own.cells (g := g) rfl j rv e
    rwa [Addr.add_mid] at this

end Go.Proofs.Ytlckpgahijlmoaa
/- R02's skeleton in memory, under way. No condition. -/
namespace Go.Proofs.Ytlckpgahijlmoaa
open Go.RowKit Go.Shelf Go.Maps

/-- W' is W grown; of what was there the block D alone may have turned -/
def Kb (D : Nat) (W W' : World) : Prop := W.heap.size ≤ W'.heap.size ∧ ∀ b, b < W.heap.size → b ≠ D → W'.heap[b]? = W.heap[b]?
theorem Kb.grown {D : Nat} {W W1 W2 : World} {row : Option Nat} (h : Kb D W W1) (hg : W1.grownBy W2 row) (hr : ∀ k, row = some k → k = D ∨ W.heap.size ≤ k) : Kb D W W2 :=
  ⟨Nat.le_trans h.1 hg.size, fun b hb hd => (hg.block b (Nat.lt_of_lt_of_le hb h.1) (fun e => by rcases hr b e.symm with q | q <;> omega)).trans (h.2 b hb hd)⟩
theorem Kb.row {D : Nat} {W W' : World} {b : Nat} {t n : Nat} {f : Nat → Value} (h : Kb D W W') (hr : W.rowIs b t n f) (hd : b ≠ D) : W'.rowIs b t n f := by
  obtain ⟨c, h1, h2, h3⟩ := hr
  exact ⟨c, (h.2 b (Array.getElem?_eq_some_iff.1 h1).1 hd).trans h1, h2, h3⟩
theorem SK.far {W W' : World} {K S dB rB sz : Nat} {q : Nat → Value} {c : Nat → Nat} {xs : Nat → List Value} {rev : Nat → Bool} (h : SK W K S dB rB sz q c xs rev) {A : Nat} (hg : W.grownBy W' (some A)) (h1 : A ≠ S) (h2 : A ≠ dB) (h3 : A ≠ rB) (h4 : ∀ o, okO o → (q o).ownBlock ≠ some A) : SK W' K S dB rB sz q c xs rev := by
  have hS := lt_of_cell h.c3
  have eS : some S ≠ some A := fun e => h1 (Option.some.inj e).symm
  exact ⟨fun o ho => hg.cell (h.cc o ho) eS, hg.cell h.c3 eS, hg.cell h.c4 eS, fun o => (hg.frozen_far ⟨S, o, none⟩ hS eS).trans (h.fz o),
    fun o ho => (h.own o ho).kept hg (.inr (h4 o ho)), by obtain ⟨g, hr⟩ := h.dr; exact ⟨g, rowIs_kept hr hg (fun e => h2 (Option.some.inj e).symm)⟩, rowIs_kept h.rr hg (fun e => h3 (Option.some.inj e).symm), h.ne, h.lo⟩
theorem SK.start {W : World} {S dB rB sz : Nat} (h0 : ∀ o, okO o → W.cell? ⟨S, o, none⟩ = some (.slice none 0 0)) (h3 : W.cell? ⟨S, 3, none⟩ = some (.slice (some ⟨dB, 0, none⟩) sz sz)) (h4 : W.cell? ⟨S, 4, none⟩ = some (.slice (some ⟨rB, 0, none⟩) sz sz))
    (hf : ∀ o, W.frozen? ⟨S, o, none⟩ = false) (hd : W.rowIs dB 3 sz (fun _ => .int .i64 0)) (hr : W.rowIs rB 4 sz (fun _ => .bool false)) (lo : S ≠ dB ∧ S ≠ rB ∧ dB ≠ rB) : SK W 0 S dB rB sz q0 (fun _ => 0) (fun _ => []) (fun _ => false) :=
  ⟨h0, h3, h4, hf, fun o _ => World.ownsRow_nil _ _ _ _, ⟨fun _ => 0, hd⟩, hr, fun o _ k hk => by simp [q0, Value.ownBlock] at hk, ⟨Nat.zero_le _, Nat.zero_le _, Nat.zero_le _, lo⟩⟩

/-- the skeleton under way: S below W6's end, the lists behind it -/
structure RK (w W6 wr : World) (N S dB rB sz : Nat) (q : Nat → Value) (c : Nat → Nat) (xs : Nat → List Value) (rev : Nat → Bool) : Prop where
  sk : SK wr 0 S dB rB sz q c xs rev
  hi : ∀ o, okO o → ∀ k, (q o).ownBlock = some k → W6.heap.size ≤ k
  kp : Kb S W6 wr
  lo : N ≤ S ∧ S < W6.heap.size ∧ W6.heap.size ≤ dB ∧ W6.heap.size ≤ rB
  bel : Below N w wr
section
variable {w W6 wr W1 w1 W' : World} {N S dB rB sz : Nat} {q : Nat → Value} {c : Nat → Nat} {xs : Nat → List Value} {rev : Nat → Bool}
theorem RK.kept (h : RK w W6 wr N S dB rB sz q c xs rev) (hg : wr.grownBy W' none) : RK w W6 W' N S dB rB sz q c xs rev :=
  ⟨h.sk.kept hg, h.hi, h.kp.grown hg (fun k e => by cases e), h.lo, h.bel.grown hg (by have := h.kp.1; have := h.lo; omega) (fun k e => by cases e)⟩
theorem RK.push (h : RK w W6 wr N S dB rB sz q c xs rev) {o m : Nat} (ho : okO o) (hm : m = c o + 1) {ys : List Value} (hga : wr.grownBy W1 none) {g cap : Nat} (hown : w1.ownsRow 0 (tyO o) (szO o) (.slice (some ⟨g, 0, none⟩) m cap) m ys)
    (hgrow : W1.grownBy w1 (q o).ownBlock) (hat : (q o).ownBlock = some g ∨ g = W1.heap.size) :
    RK w W6 (w1.setCell ⟨S, o, none⟩ (.slice (some ⟨g, 0, none⟩) m cap)) N S dB rB sz (updO q o (.slice (some ⟨g, 0, none⟩) m cap)) (updO c o m) (updO xs o ys) rev := by
  have hk := h.kept hga
  have hlo := h.lo
  have hk1 := h.kp.1
  have hs1 := hga.size
  refine ⟨h.sk.push ho hm hga hown hgrow hat, fun i hi k hki => ?_, (hk.kp.grown hgrow (fun k e => .inr (h.hi o ho k e))).grown (grownBy_setCell _ _ _ _) (fun k e => .inl (by cases e; rfl)), h.lo, ?_⟩
  · by_cases e : i = o
    · subst e
      rw [updO_same] at hki
      simp [Value.ownBlock] at hki
      subst hki
      rcases hat with q | q
      · exact h.hi i ho g q
      · omega
    · rw [updO_other _ _ _ _ e] at hki
      exact h.hi i hi k hki
  · exact (hk.bel.grown hgrow (by omega) (fun k e => by have := h.hi o ho k e; omega)).setCell (by show N ≤ S; omega) _
theorem RK.degree (h : RK w W6 wr N S dB rB sz q c xs rev) (i : Nat) (x : Int) : RK w W6 (wr.setCell ⟨dB, i, none⟩ (.int .i64 x)) N S dB rB sz q c xs rev :=
  ⟨h.sk.degree i x, h.hi, h.kp.grown (grownBy_setCell _ _ _ _) (fun k e => .inr (by cases e; exact h.lo.2.2.1)), h.lo, h.bel.setCell (by show N ≤ dB; have := h.lo; omega) _⟩
theorem RK.reverse (h : RK w W6 wr N S dB rB sz q c xs rev) (i : Nat) : RK w W6 (wr.setCell ⟨rB, i, none⟩ (.bool true)) N S dB rB sz q c xs (fun j => if j = i then true else rev j) :=
  ⟨h.sk.reverse i, h.hi, h.kp.grown (grownBy_setCell _ _ _ _) (fun k e => .inr (by cases e; exact h.lo.2.2.2)), h.lo, h.bel.setCell (by show N ≤ rB; have := h.lo; omega) _⟩
theorem RK.congr {c' : Nat → Nat} {xs' : Nat → List Value} {rev' : Nat → Bool} (h : RK w W6 wr N S dB rB sz q c xs rev) (h1 : ∀ o, okO o → c o = c' o) (h2 : ∀ o, okO o → xs o = xs' o) (h3 : ∀ i, rev i = rev' i) : RK w W6 wr N S dB rB sz q c' xs' rev' :=
  ⟨h.sk.congr h1 h2 h3, h.hi, h.kp, h.lo, h.bel⟩
theorem RK.far (h : RK w W6 wr N S dB rB sz q c xs rev) {A : Nat} (hg : wr.grownBy W' (some A)) (h0 : W6.heap.size ≤ A) (h1 : A ≠ S) (h2 : A ≠ dB) (h3 : A ≠ rB) (h4 : ∀ o, okO o → (q o).ownBlock ≠ some A) : RK w W6 W' N S dB rB sz q c xs rev :=
  ⟨h.sk.far hg h1 h2 h3 h4, h.hi, h.kp.grown hg (fun k e => .inr (by cases e; exact h0)), h.lo, h.bel.grown hg (by have := h.kp.1; have := h.lo; omega) (fun k e => by cases e; have := h.lo; omega)⟩
/-- besides: the three arrays of a row -/
structure RA (w W6 wr : World) (N S dB rB sz : Nat) (q : Nat → Value) (c : Nat → Nat) (xs : Nat → List Value) (rev : Nat → Bool) (A1 A2 A3 : Nat) (f1 f2 f3 : Nat → Value) : Prop where
  rk : RK w W6 wr N S dB rB sz q c xs rev
  a1 : wr.rowIs A1 84 4 f1
  a2 : wr.rowIs A2 84 4 f2
  a3 : wr.rowIs A3 162 6 f3
  ne : A1 ≠ A2 ∧ A1 ≠ A3 ∧ A2 ≠ A3
  far : ∀ A, A = A1 ∨ A = A2 ∨ A = A3 → W6.heap.size ≤ A ∧ A ≠ S ∧ A ≠ dB ∧ A ≠ rB ∧ ∀ o, okO o → (q o).ownBlock ≠ some A
variable {A1 A2 A3 : Nat} {f1 f2 f3 : Nat → Value}
theorem RA.kept (h : RA w W6 wr N S dB rB sz q c xs rev A1 A2 A3 f1 f2 f3) (hg : wr.grownBy W' none) : RA w W6 W' N S dB rB sz q c xs rev A1 A2 A3 f1 f2 f3 :=
  ⟨h.rk.kept hg, rowIs_kept h.a1 hg (by simp), rowIs_kept h.a2 hg (by simp), rowIs_kept h.a3 hg (by simp), h.ne, h.far⟩
theorem RA.set1 (h : RA w W6 wr N S dB rB sz q c xs rev A1 A2 A3 f1 f2 f3) (i : Nat) (v : Value) : RA w W6 (wr.setCell ⟨A1, i, none⟩ v) N S dB rB sz q c xs rev A1 A2 A3 (fun j => if j = i then v else f1 j) f2 f3 := by
  have hf := h.far A1 (.inl rfl)
  have hg := grownBy_setCell wr A1 i v
  exact ⟨h.rk.far hg hf.1 hf.2.1 hf.2.2.1 hf.2.2.2.1 hf.2.2.2.2, h.a1.set i v, rowIs_kept h.a2 hg (fun e => h.ne.1 (Option.some.inj e).symm), rowIs_kept h.a3 hg (fun e => h.ne.2.1 (Option.some.inj e).symm), h.ne, h.far⟩
theorem RA.set2 (h : RA w W6 wr N S dB rB sz q c xs rev A1 A2 A3 f1 f2 f3) (i : Nat) (v : Value) : RA w W6 (wr.setCell ⟨A2, i, none⟩ v) N S dB rB sz q c xs rev A1 A2 A3 f1 (fun j => if j = i then v else f2 j) f3 := by
  have hf := h.far A2 (.inr (.inl rfl))
  have hg := grownBy_setCell wr A2 i v
  exact ⟨h.rk.far hg hf.1 hf.2.1 hf.2.2.1 hf.2.2.2.1 hf.2.2.2.2, rowIs_kept h.a1 hg (fun e => h.ne.1 (Option.some.inj e)), h.a2.set i v, rowIs_kept h.a3 hg (fun e => h.ne.2.2 (Option.some.inj e).symm), h.ne, h.far⟩
theorem RA.set3 (h : RA w W6 wr N S dB rB sz q c xs rev A1 A2 A3 f1 f2 f3) (i : Nat) (v : Value) : RA w W6 (wr.setCell ⟨A3, i, none⟩ v) N S dB rB sz q c xs rev A1 A2 A3 f1 f2 (fun j => if j = i then v else f3 j) := by
  have hf := h.far A3 (.inr (.inr rfl))
  have hg := grownBy_setCell wr A3 i v
  exact ⟨h.rk.far hg hf.1 hf.2.1 hf.2.2.1 hf.2.2.2.1 hf.2.2.2.2, rowIs_kept h.a1 hg (fun e => h.ne.2.1 (Option.some.inj e)), rowIs_kept h.a2 hg (fun e => h.ne.2.2 (Option.some.inj e)), h.a3.set i v, h.ne, h.far⟩
theorem RA.degree (h : RA w W6 wr N S dB rB sz q c xs rev A1 A2 A3 f1 f2 f3) (i : Nat) (x : Int) : RA w W6 (wr.setCell ⟨dB, i, none⟩ (.int .i64 x)) N S dB rB sz q c xs rev A1 A2 A3 f1 f2 f3 := by
  have hg := grownBy_setCell wr dB i (.int .i64 x)
  exact ⟨h.rk.degree i x, rowIs_kept h.a1 hg (fun e => (h.far A1 (.inl rfl)).2.2.1 (Option.some.inj e)), rowIs_kept h.a2 hg (fun e => (h.far A2 (.inr (.inl rfl))).2.2.1 (Option.some.inj e)), rowIs_kept h.a3 hg (fun e => (h.far A3 (.inr (.inr rfl))).2.2.1 (Option.some.inj e)), h.ne, h.far⟩
theorem RA.reverse (h : RA w W6 wr N S dB rB sz q c xs rev A1 A2 A3 f1 f2 f3) (i : Nat) : RA w W6 (wr.setCell ⟨rB, i, none⟩ (.bool true)) N S dB rB sz q c xs (fun j => if j = i then true else rev j) A1 A2 A3 f1 f2 f3 := by
  have hg := grownBy_setCell wr rB i (.bool true)
  exact ⟨h.rk.reverse i, rowIs_kept h.a1 hg (fun e => (h.far A1 (.inl rfl)).2.2.2.1 (Option.some.inj e)), rowIs_kept h.a2 hg (fun e => (h.far A2 (.inr (.inl rfl))).2.2.2.1 (Option.some.inj e)), rowIs_kept h.a3 hg (fun e => (h.far A3 (.inr (.inr rfl))).2.2.2.1 (Option.some.inj e)), h.ne, h.far⟩
theorem RA.congr {c' : Nat → Nat} {xs' : Nat → List Value} {rev' : Nat → Bool} {g1 g2 g3 : Nat → Value} (h : RA w W6 wr N S dB rB sz q c xs rev A1 A2 A3 f1 f2 f3) (h1 : ∀ o, okO o → c o = c' o) (h2 : ∀ o, okO o → xs o = xs' o) (h3 : ∀ i, rev i = rev' i) (k1 : ∀ i, i < 4 → f1 i = g1 i) (k2 : ∀ i, i < 4 → f2 i = g2 i) (k3 : ∀ i, i < 6 → f3 i = g3 i) : RA w W6 wr N S dB rB sz q c' xs' rev' A1 A2 A3 g1 g2 g3 :=
  ⟨h.rk.congr h1 h2 h3, h.a1.congr k1, h.a2.congr k2, h.a3.congr k3, h.ne, h.far⟩
theorem RA.push (h : RA w W6 wr N S dB rB sz q c xs rev A1 A2 A3 f1 f2 f3) {o m : Nat} (ho : okO o) (hm : m = c o + 1) {ys : List Value} (hga : wr.grownBy W1 none) {g cap : Nat} (hown : w1.ownsRow 0 (tyO o) (szO o) (.slice (some ⟨g, 0, none⟩) m cap) m ys)
    (hgrow : W1.grownBy w1 (q o).ownBlock) (hat : (q o).ownBlock = some g ∨ g = W1.heap.size) :
    RA w W6 (w1.setCell ⟨S, o, none⟩ (.slice (some ⟨g, 0, none⟩) m cap)) N S dB rB sz (updO q o (.slice (some ⟨g, 0, none⟩) m cap)) (updO c o m) (updO xs o ys) rev A1 A2 A3 f1 f2 f3 := by
  have hk := h.kept hga
  have row : ∀ A t n f, (A = A1 ∨ A = A2 ∨ A = A3) → W1.rowIs A t n f → (w1.setCell ⟨S, o, none⟩ (.slice (some ⟨g, 0, none⟩) m cap)).rowIs A t n f := fun A t n f hA hr =>
    rowIs_kept (rowIs_kept hr hgrow (fun e => (h.far A hA).2.2.2.2 o ho e.symm)) (grownBy_setCell _ _ _ _) (fun e => (h.far A hA).2.1 (Option.some.inj e))
  refine ⟨h.rk.push ho hm hga hown hgrow hat, row _ _ _ _ (.inl rfl) hk.a1, row _ _ _ _ (.inr (.inl rfl)) hk.a2, row _ _ _ _ (.inr (.inr rfl)) hk.a3, h.ne, fun A hA => ?_⟩
  obtain ⟨r1, r2, r3, r4, r5⟩ := h.far A hA
  have hlt : A < wr.heap.size := by
    rcases hA with e | e | e
    · rw [e]; exact h.a1.lt
    · rw [e]; exact h.a2.lt
    · rw [e]; exact h.a3.lt
  refine ⟨r1, r2, r3, r4, fun i hi e => ?_⟩
  by_cases eo : i = o
  · subst eo
    rw [updO_same] at e
    simp [Value.ownBlock] at e
    subst e
    rcases hat with z | z
    · exact r5 i ho z
    · have := hga.size; omega
  · rw [updO_other _ _ _ _ eo] at e
    exact r5 i hi e
theorem RA.fresh (h : RK w W6 wr N S dB rB sz q c xs rev) : RA w W6 (((wr.alloc (.cells #[.int .i64 0, .int .i64 0, .int .i64 0, .int .i64 0] 84)).alloc (.cells #[.int .i64 0, .int .i64 0, .int .i64 0, .int .i64 0] 84)).alloc (.cells #[.int .i64 0, .int .i64 0, .int .i64 0, .int .i64 0, .int .i64 0, .int .i64 0] 162)) N S dB rB sz q c xs rev wr.heap.size (wr.heap.size + 1) (wr.heap.size + 1 + 1) (fun _ => .int .i64 0) (fun _ => .int .i64 0) (fun _ => .int .i64 0) := by
  have z4 : ∀ i, i < 4 → (#[.int .i64 0, .int .i64 0, .int .i64 0, .int .i64 0] : Array Value)[i]? = some (.int .i64 0) := fun i hi => by
    match i, hi with
    | 0, _ => rfl
    | 1, _ => rfl
    | 2, _ => rfl
    | 3, _ => rfl
  have z6 : ∀ i, i < 6 → (#[.int .i64 0, .int .i64 0, .int .i64 0, .int .i64 0, .int .i64 0, .int .i64 0] : Array Value)[i]? = some (.int .i64 0) := fun i hi => by
    match i, hi with
    | 0, _ => rfl
    | 1, _ => rfl
    | 2, _ => rfl
    | 3, _ => rfl
    | 4, _ => rfl
    | 5, _ => rfl
  have g := fun (W : World) (o : Obj) => World.grownBy_alloc W o none
  have r1 := World.rowIs_alloc wr #[.int .i64 0, .int .i64 0, .int .i64 0, .int .i64 0] 84 _ z4
  have r2 := World.rowIs_alloc (wr.alloc (.cells #[.int .i64 0, .int .i64 0, .int .i64 0, .int .i64 0] 84)) #[.int .i64 0, .int .i64 0, .int .i64 0, .int .i64 0] 84 _ z4
  have r3 := World.rowIs_alloc ((wr.alloc (.cells #[.int .i64 0, .int .i64 0, .int .i64 0, .int .i64 0] 84)).alloc (.cells #[.int .i64 0, .int .i64 0, .int .i64 0, .int .i64 0] 84)) #[.int .i64 0, .int .i64 0, .int .i64 0, .int .i64 0, .int .i64 0, .int .i64 0] 162 _ z6
  rw [World.size_alloc] at r2
  rw [World.size_alloc, World.size_alloc] at r3
  have hS := lt_of_cell h.sk.c3
  obtain ⟨gd, hd⟩ := h.sk.dr
  have hdl := hd.lt
  have hrl := h.sk.rr.lt
  have hk := h.kp.1
  simp only at hS
  refine ⟨((h.kept (g _ _)).kept (g _ _)).kept (g _ _), rowIs_kept (rowIs_kept r1 (g _ _) (by simp)) (g _ _) (by simp), rowIs_kept r2 (g _ _) (by simp), r3, ⟨by omega, by omega, by omega⟩, fun A hA => ?_⟩
  have hA2 : wr.heap.size ≤ A := by omega
  exact ⟨by omega, by omega, by omega, by omega, fun o ho e => by have := ((h.sk.own o ho).lt A e).2; omega⟩
end
end Go.Proofs.Ytlckpgahijlmoaa
namespace Go.Proofs.Ytlckpgahijlmoaa
open Go.RowKit Go.Shelf Go.Maps

theorem sameB_rf (n : Nat) (f : Nat → Int) : sameB n f n f = true := by unfold sameB; simp
set_option maxRecDepth 20000 in
set_option maxHeartbeats 2000000 in
theorem rsame_walk (s : Int) (n : Nat) (ln : Nat → Nat) (f : Nat → Nat → Int) (hn : n < 4611686018427387904) (hl : ∀ k, k < n → ln k < 4611686018427387904) (B : Nat) (w : World) (hB : B ≤ w.heap.size) (v u : Value) (hv : LLs B w v n ln f) (hu : LLs B w u n ln f) :
    Calls Try.prog 20 #[.agg #[.int .i64 s, v], .agg #[.int .i64 s, u]] w fun e w' => e = .returned (.bool true) ∧ Below w.heap.size w w' := by
  obtain ⟨a, b, off, cap, rfl, ha, hc⟩ := hv
  obtain ⟨a', b', off', cap', rfl, ha', hc'⟩ := hu
  have HC := Lib.hid (And.intro ha (And.intro hc (And.intro ha' hc'))); clear ha hc ha' hc'
  generalize hN : w.heap.size = N at *
  have q1 : (s != s) = false := by simp
  have q2 : ((n : Int) != (n : Int)) = false := by simp
  go_enter Try.func20, Try.ntmps20
  have hb0 : ∀ o1 o2, Below w.heap.size w ((w.alloc o1).alloc o2) := fun o1 o2 => by (repeat' (first | assumption | exact Below.refl _ _ | refine below_then ?_ (by assumption) | refine below_al ?_ _ | refine below_dr ?_ | refine below_sc ?_ (by simp <;> omega) _))
  rw [hN] at hb0
  have HB0 := Lib.hid hb0
  clear hb0
  go_wp2
  refine wp_named fun W0 hW => ?_
  have h0 : Below N w W0 ∧ W0.cell? ⟨N, 1, none⟩ = some (.slice a n cap) ∧ W0.cell? ⟨N + 1, 1, none⟩ = some (.slice a' n cap') := by
    rw [hW]; exact ⟨HB0.out _ _, by subst hN; simp [go_sem], by subst hN; simp [go_sem]⟩
  clear hW HB0
  have H0 := Lib.hid h0
  clear h0
  go_loopw [23] (fun i wr => ∃ k : Nat, k ≤ n ∧ i = .int .i64 k ∧ Below N w wr ∧ wr.cell? ⟨N, 1, none⟩ = some (.slice a n cap) ∧ wr.cell? ⟨N + 1, 1, none⟩ = some (.slice a' n cap')) (fun i _ => n - (intOf i).toNat)
  case atStart => exact ⟨0, by omega, rfl, H0.out⟩
  case round =>
    clear H0
    obtain ⟨k, hk, rfl, hb, y0, y1⟩ := hrel
    have HK := Lib.hid (And.intro hb (And.intro y0 y1))
    rcases Nat.lt_or_ge k n with hkn | hkn
    · obtain ⟨ha, hc, ha', hc'⟩ := HC.out
      obtain ⟨rfl, hbB⟩ := ha (by omega)
      obtain ⟨rfl, hbB'⟩ := ha' (by omega)
      obtain ⟨rv, x0, xs⟩ := hc k hkn
      obtain ⟨ru, z0, zs⟩ := hc' k hkn
      have x := (hb.cell (p := ⟨b, off + k, none⟩) (by show b < N; omega)).trans x0
      have z := (hb.cell (p := ⟨b', off' + k, none⟩) (by show b' < N; omega)).trans z0
      have hbd : Below B w wr.drew := below_dr (hb.mono hB)
      have S31 := SameInts_walk (ln k) (ln k) (f k) (f k) (hl k hkn) B wr.drew rv ru (xs.below hbd) (zs.below hbd)
      rw [sameB_rf] at S31
      obtain ⟨a1, b1, o1, c1, rfl, _, _⟩ := xs
      obtain ⟨a2, b2, o2, c2, rfl, _, _⟩ := zs
      have k0 : 0 ≤ (k : Int) := by omega
      have kn : (k : Int) < (n : Int) := by omega
      have HS := Lib.hid S31
      have cells : ∀ W, Below wr.heap.size wr W → W.cell? ⟨N, 1, none⟩ = some (.slice (some ⟨b, off, none⟩) n cap) ∧ W.cell? ⟨N + 1, 1, none⟩ = some (.slice (some ⟨b', off', none⟩) n cap') ∧ W.cell? ⟨b, off + k, none⟩ = some (.slice a1 (ln k) c1) ∧ W.cell? ⟨b', off' + k, none⟩ = some (.slice a2 (ln k) c2) := fun W h =>
        ⟨(h.cell (p := ⟨N, 1, none⟩) (lt_of_cell y0)).trans y0, (h.cell (p := ⟨N + 1, 1, none⟩) (lt_of_cell y1)).trans y1, (h.cell (p := ⟨b, off + k, none⟩) (lt_of_cell x)).trans x, (h.cell (p := ⟨b', off' + k, none⟩) (lt_of_cell z)).trans z⟩
      have HCL := Lib.hid cells
      obtain ⟨y0, y1, x, z⟩ := cells wr.drew (by (repeat' (first | assumption | exact Below.refl _ _ | refine below_then ?_ (by assumption) | refine below_al ?_ _ | refine below_dr ?_ | refine below_sc ?_ (by simp <;> omega) _)))
      clear cells hb ha hc ha' hc' S31 x0 z0 hbd
      go_wp2
      go_region_held3 (fun w' => w'.cell? ⟨N, 1, none⟩ = some (.slice (some ⟨b, off, none⟩) n cap) ∧ w'.cell? ⟨N + 1, 1, none⟩ = some (.slice (some ⟨b', off', none⟩) n cap') ∧ w'.cell? ⟨b, off + k, none⟩ = some (.slice a1 (ln k) c1) ∧ w'.cell? ⟨b', off' + k, none⟩ = some (.slice a2 (ln k) c2))
        (exact HCL.out _ (by (repeat' (first | assumption | exact Below.refl _ _ | refine below_then ?_ (by assumption) | refine below_al ?_ _ | refine below_dr ?_ | refine below_sc ?_ (by simp <;> omega) _))))
        (first | (go_at_call 31; (with_reducible refine HS.out.mono ?_); rintro e w1 ⟨rfl, hb1⟩))
      have HB1 := Lib.hid ((below_dr (Below.refl wr.heap.size wr)).trans (hb1 : Below wr.heap.size wr.drew w1))
      clear hb1
      go_wp2
      go_roundw
      case rel => exact ⟨k + 1, by omega, rfl, HK.out.1.trans (HB1.out.mono (by have := HK.out.1.size; omega)), (HCL.out _ HB1.out).1, (HCL.out _ HB1.out).2.1⟩
      case measure => simp [intOf]; omega
    · obtain rfl : k = n := by omega
      clear hb
      go_wp2
      go_ret
      exact ⟨rfl, HK.out.1⟩
end Go.Proofs.Ytlckpgahijlmoaa
