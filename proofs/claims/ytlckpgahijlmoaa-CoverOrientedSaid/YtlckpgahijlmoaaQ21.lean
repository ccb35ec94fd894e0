/- Comparing lists: SameInts, SameLists. No condition. -/
import Derived.Test.YtlckpgahijlmoaaQ20
import Derived.Test.YtlckpgahijlmoaaQ13
/- cover's cross: the sheet behind a face. -/
namespace Go.Proofs.Ytlckpgahijlmoaa
open Go.RowKit Go.Shelf Go.Maps

/-- a slice of slices of numbers in memory -/
def LLs (B : Nat) (W : World) (v : Value) (n : Nat) (len : Nat → Nat) (f : Nat → Nat → Int) : Prop :=
  ∃ a b off cap, v = .slice a n cap ∧ (0 < n → a = some ⟨b, off, none⟩ ∧ b < B) ∧ ∀ k, k < n → ∃ rv, W.cell? ⟨b, off + k, none⟩ = some rv ∧ SI B W rv (len k) (f k)
theorem LLs.below {B : Nat} {W W' : World} {v : Value} {n : Nat} {len : Nat → Nat} {f : Nat → Nat → Int} (h : LLs B W v n len f) (hb : Below B W W') : LLs B W' v n len f := by
  obtain ⟨a, b, off, cap, rfl, h1, h2⟩ := h
  refine ⟨a, b, off, cap, rfl, h1, fun k hk => ?_⟩
  obtain ⟨rv, h3, h4⟩ := h2 k hk
  exact ⟨rv, (hb.cell (p := ⟨b, off + k, none⟩) (h1 (by omega)).2).trans h3, h4.below hb⟩
theorem LLs.mono {B B' : Nat} {W : World} {v : Value} {n : Nat} {len : Nat → Nat} {f : Nat → Nat → Int} (h : LLs B W v n len f) (hB : B ≤ B') : LLs B' W v n len f := by
  obtain ⟨a, b, off, cap, rfl, h1, h2⟩ := h
  refine ⟨a, b, off, cap, rfl, fun k => ⟨(h1 k).1, by have := (h1 k).2; omega⟩, fun k hk => ?_⟩
  obtain ⟨rv, h3, h4⟩ := h2 k hk
  exact ⟨rv, h3, h4.mono hB⟩
/-- a covering in memory: its space, its permutations and their inverses -/
structure CV (W : World) (B Cv B' X mb : Nat) (v pv bv : Value) (G : Gl) (vv ev tv lv : Value) (dB rB sh : Nat) (f g : Nat → Nat → Int) : Prop where
  c0 : W.cell? ⟨Cv, 0, none⟩ = some (.pointer (some ⟨X, 0, none⟩))
  c1 : W.cell? ⟨Cv, 1, none⟩ = some (.int .i64 (sh : Int))
  c2 : W.cell? ⟨Cv, 2, none⟩ = some pv
  c3 : W.cell? ⟨Cv, 3, none⟩ = some bv
  sp : SP W B' X mb v G (4 * G.n) vv ev tv lv dB rB
  pl : LLs B W pv (nF G) (fun _ => sh) f
  bl : LLs B W bv (nF G) (fun _ => sh) g
theorem CV.below {W W' : World} {B Cv B' X mb : Nat} {v pv bv : Value} {G : Gl} {vv ev tv lv : Value} {dB rB sh : Nat} {f g : Nat → Nat → Int} (hB : B ≤ W.heap.size) (h : CV W B Cv B' X mb v pv bv G vv ev tv lv dB rB sh f g) (hb : Below W.heap.size W W') : CV W' B Cv B' X mb v pv bv G vv ev tv lv dB rB sh f g := by
  have hg := below_grown hb (Nat.le_refl _) none
  exact ⟨hg.cell h.c0 (by simp), hg.cell h.c1 (by simp), hg.cell h.c2 (by simp), hg.cell h.c3 (by simp), h.sp.below hb, h.pl.below (hb.mono hB), h.bl.below (hb.mono hB)⟩
/-- the sheet behind the face f of t, from a sheet on -/
def crF (G : Gl) (f g : Nat → Nat → Int) (t fc i : Nat) : Int := if (fD G (4 * G.n) (t, fc)).isSome then f (fN G (4 * t + fc)) i else g (fN G (4 * t + fc)) i

set_option maxRecDepth 20000 in
set_option maxHeartbeats 1000000 in
theorem cross_walk {G : Gl} (hok : checkB G = true) {w : World} {B Cv B' X mb : Nat} {v pv bv : Value} {vv ev tv lv : Value} {dB rB sh : Nat} {f g : Nat → Nat → Int} (h : CV w B Cv B' X mb v pv bv G vv ev tv lv dB rB sh f g) (t fc i : Nat) (ht : t < G.n) (hf : fc < 4) (hi : i < sh) :
    Calls Try.prog 56 #[.pointer (some ⟨Cv, 0, none⟩), .int .i64 (t : Int), .int .i64 (fc : Int), .int .i64 (i : Int)] w fun e w' => e = .returned (.int .i64 (crF G f g t fc i)) ∧ Below w.heap.size w w' := by
  have hn : G.n ≤ 1000 := by simp only [checkB, Bool.and_eq_true, decide_eq_true_eq] at hok; exact hok.1
  have hk := fN_lt hok (show 4 * t + fc < 4 * G.n by omega)
  obtain ⟨gt, ct, htv, _, _⟩ := h.sp.twn.form (by omega)
  subst htv
  have hrow : w.cell? ⟨gt, t * 4 + fc, none⟩ = some (.int .i64 (fN G (4 * t + fc) : Nat)) := by
    have := h.sp.twn.cells (g := gt) rfl (4 * t + fc) _ (ints_get (fN G) (4 * G.n) (4 * t + fc) (by omega))
    rw [Addr.add_mid, Nat.zero_add] at this
    rw [show t * 4 + fc = 4 * t + fc by omega]; exact this
  obtain ⟨nn, hmap⟩ := h.sp.map
  have hlk := hmap.look codes83 und78 (zero3 _) true (t, fc) ⟨by show t < _; omega, by show fc < _; omega⟩
  simp only [if_true] at hlk
  obtain ⟨pa, pb, po, pc, rfl, hp1, hp2⟩ := h.pl
  obtain ⟨rfl, hpB⟩ := hp1 (by omega)
  obtain ⟨prv, hp3, hp4⟩ := hp2 _ hk
  obtain ⟨pra, prb, pro, prc, rfl, hpr1, hpr2⟩ := hp4
  obtain ⟨rfl, _⟩ := hpr1 (by show 0 < sh; omega)
  have hpx := hpr2 i hi
  obtain ⟨ba, bb, bo, bc, rfl, hb1, hb2⟩ := h.bl
  obtain ⟨rfl, hbB⟩ := hb1 (by omega)
  obtain ⟨brv, hb3, hb4⟩ := hb2 _ hk
  obtain ⟨bra, brb, bro, brc, rfl, hbr1, hbr2⟩ := hb4
  obtain ⟨rfl, _⟩ := hbr1 (by show 0 < sh; omega)
  have hbx := hbr2 i hi
  have x0 := h.c0
  have x2 := h.c2
  have x3 := h.c3
  have s3 := h.sp.c3
  have s7 := h.sp.c7
  obtain ⟨r, hr⟩ : ∃ r, r = crF G f g t fc i := ⟨_, rfl⟩
  unfold crF at hr
  obtain ⟨k, hke⟩ : ∃ k, k = fN G (4 * t + fc) := ⟨_, rfl⟩
  rw [← hke] at hrow hk hp3 hb3 hpx hbx hr
  have hlk2 : (Instr.lookup 78 (.map (some mb)) (.agg #[.int .i64 (t : Int), .int .i64 (fc : Int)]) true).run Try.prog w = .ok (.tuple #[(fD G (4 * G.n) (t, fc)).elim (.int .i64 0) vi, .bool (fD G (4 * G.n) (t, fc)).isSome]) w := hlk
  have hres := Lib.hid (show r = crF G f g t fc i by rw [hr]; unfold crF; rw [hke])
  generalize hD : fD G (4 * G.n) (t, fc) = Dv at *
  generalize nF G = nf at *
  generalize f k i = fx at *
  generalize g k i = gx at *
  have t0 : 0 ≤ (t : Int) := by omega
  have tn : (t : Int) < (G.n : Int) := by omega
  have c0 : 0 ≤ (fc : Int) := by omega
  have c4 : (fc : Int) < 4 := by omega
  have k0 : 0 ≤ (k : Int) := by omega
  have kn : (k : Int) < (nf : Int) := by omega
  have i0 : 0 ≤ (i : Int) := by omega
  have is : (i : Int) < (sh : Int) := by omega
  clear hp1 hp2 hpr1 hpr2 hb1 hb2 hbr1 hbr2 hlk hmap h hke hD
  cases Dv with
  | none =>
    simp only [Option.isSome_none, Bool.false_eq_true, if_false] at hr
    simp only [Option.elim, Option.isSome_none] at hlk2
    subst hr
    go_enter Try.func56, Try.ntmps56
    go_wp2
    go_ret
    exact ⟨by rw [← hres.out]; rfl, Below.refl _ _⟩
  | some z =>
    simp only [Option.isSome_some, if_true] at hr
    simp only [Option.elim, Option.isSome_some] at hlk2
    subst hr
    go_enter Try.func56, Try.ntmps56
    go_wp2
    go_ret
    exact ⟨by rw [← hres.out]; rfl, Below.refl _ _⟩
end Go.Proofs.Ytlckpgahijlmoaa
/- R08.CopyInts: lists with memory of their own. Rows of at most 2^40 numbers, at most 1000 rows. -/
namespace Go.Proofs.Ytlckpgahijlmoaa
open Go.RowKit Go.Shelf

theorem und26 : Try.prog.underlying 26 = some (.slice 35) := by kernel_rfl
theorem info35 : (Try.prog.info? 35).map (fun i => (i.zero, i.size, i.bytes)) = some (some (.slice none 0 0), 1, 24) := by kernel_rfl
/-- the rows copied so far -/
structure CI (W : World) (K : Nat) (v : Value) (k : Nat) (xs : List Value) (len : Nat → Nat) (f : Nat → Nat → Int) : Prop where
  own : W.ownsRow K 35 1 v k xs
  row : ∀ j, j < k → ∃ a d cap, xs[j]? = some (.slice a (len j) cap) ∧ (0 < len j → a = some ⟨d, 0, none⟩ ∧ K ≤ d ∧ d < W.heap.size ∧ v.ownBlock ≠ some d) ∧ ∀ i, i < len j → W.cell? ⟨d, i, none⟩ = some (.int .i64 (f j i))
/-- one row more: r was made, then appended -/
theorem CI.push {W W2 w2 : World} {K : Nat} {v : Value} {k : Nat} {xs : List Value} {len : Nat → Nat} {f : Nat → Nat → Int} {a : Option Addr} {d cap g gc : Nat} (h : CI W K v k xs len f) (hg : W.grownBy W2 none)
    (hr : 0 < len k → a = some ⟨d, 0, none⟩ ∧ K ≤ d ∧ d < W2.heap.size ∧ W.heap.size ≤ d) (hc : ∀ i, i < len k → W2.cell? ⟨d, i, none⟩ = some (.int .i64 (f k i)))
    (hown : w2.ownsRow K 35 1 (.slice (some ⟨g, 0, none⟩) (k + 1) gc) (k + 1) (xs ++ [.slice a (len k) cap]))
    (hgrow : W2.grownBy w2 v.ownBlock) (hat : v.ownBlock = some g ∨ g = W2.heap.size) : CI w2 K (.slice (some ⟨g, 0, none⟩) (k + 1) gc) (k + 1) (xs ++ [.slice a (len k) cap]) len f := by
  have hxl := h.own.1
  have hob : ∀ j, v.ownBlock = some j → j < W.heap.size := fun j hj => (h.own.lt j hj).2
  refine ⟨hown, fun j hj => ?_⟩
  by_cases e : j = k
  · subst e
    refine ⟨a, d, cap, by rw [List.getElem?_append_right (by omega), show j - xs.length = 0 by omega]; rfl, fun hp => ?_, fun i hi => hgrow.cell (hc i hi) ?_⟩
    · obtain ⟨r1, r2, r3, r4⟩ := hr hp
      refine ⟨r1, r2, Nat.lt_of_lt_of_le r3 hgrow.size, ?_⟩
      simp only [Value.ownBlock, ne_eq, Option.some.injEq]
      intro q
      rcases hat with z | z
      · subst q; have := hob _ z; omega
      · omega
    · intro q
      have := (hr (by omega)).2.2.2
      have := hob _ q.symm
      simp only at this; omega
  · obtain ⟨a', d', cap', e1, h3, h4⟩ := h.row j (by omega)
    refine ⟨a', d', cap', by rw [List.getElem?_append_left (by omega)]; exact e1, fun hp => ?_, fun i hi => hgrow.cell (hg.cell (h4 i hi) (by simp)) (fun q => (h3 (by omega)).2.2.2 q.symm)⟩
    obtain ⟨r1, r2, r3, r4⟩ := h3 hp
    refine ⟨r1, r2, Nat.lt_of_lt_of_le (Nat.lt_of_lt_of_le r3 hg.size) hgrow.size, ?_⟩
    simp only [Value.ownBlock, ne_eq, Option.some.injEq]
    intro q
    rcases hat with z | z
    · subst q; exact r4 z
    · have := hg.size; omega
theorem CI.LLs {W : World} {K : Nat} {v : Value} {k : Nat} {xs : List Value} {len : Nat → Nat} {f : Nat → Nat → Int} (h : CI W K v k xs len f) : LLs W.heap.size W v k len f := by
  have row : ∀ j, j < k → ∃ rv, xs[j]? = some rv ∧ SI W.heap.size W rv (len j) (f j) := fun j hj => by
    obtain ⟨a, d, cap, e, h3, h4⟩ := h.row j hj
    exact ⟨_, e, a, d, 0, cap, rfl, fun hp => ⟨(h3 hp).1, (h3 hp).2.2.1⟩, fun i hi => by rw [Nat.zero_add]; exact h4 i hi⟩
  rcases h.own.2 with ⟨rfl, rfl⟩ | ⟨g, cap, cur, rfl, _, hgg, _⟩
  · exact ⟨none, 0, 0, 0, rfl, fun h => by omega, fun j hj => by omega⟩
  · refine ⟨_, g, 0, cap, rfl, fun _ => ⟨rfl, (Array.getElem?_eq_some_iff.1 hgg).1⟩, fun j hj => ?_⟩
    obtain ⟨rv, e, hs⟩ := row j hj
    refine ⟨rv, ?_, hs⟩
    have := h.own.cells (g := g) rfl j rv e
    rwa [Addr.add_mid] at this

def nums (f : Nat → Int) (n : Nat) : List Value := (List.range n).map fun i => .int .i64 (f i)
set_option maxRecDepth 20000 in
set_option maxHeartbeats 2000000 in
theorem CopyInts_walk (n : Nat) (len : Nat → Nat) (f : Nat → Nat → Int) (hn : n ≤ 1000) (hlen : ∀ k, k < n → len k ≤ 17592186044416) (w : World) (v : Value) (hv : LLs w.heap.size w v n len f) :
    Calls Try.prog 33 #[v] w fun e w' => ∃ u xs, e = .returned u ∧ CI w' w.heap.size u n xs len f ∧ Below w.heap.size w w' := by
  obtain ⟨a, b, off, cap, rfl, ha, hc⟩ := hv
  have HC := Lib.hid (And.intro ha (And.intro hc hlen)); clear ha hc hlen
  go_enter Try.func33, Try.ntmps33
  go_wp2
  generalize hN : w.heap.size = N at *
  go_loopw [9, 3] (fun i u wr => ∃ (k : Nat) (xs : List Value), k ≤ n ∧ i = .int .i64 k ∧ CI wr N u k xs len f ∧ Below N w wr) (fun i _ _ => n - (intOf i).toNat)
  case atStart => exact ⟨0, [], by omega, rfl, ⟨World.ownsRow_nil _ _ _ _, fun j hj => by omega⟩, Below.refl _ _⟩
  case round =>
    obtain ⟨k, xs, hk, rfl, hCI, hb⟩ := hrel
    obtain ⟨ga, gp, rfl⟩ := ownsRow_form hCI.own
    have HK := Lib.hid (And.intro hCI hb)
    rcases Nat.lt_or_ge k n with hkn | hkn
    · obtain ⟨ha, hc, hl⟩ := HC.out
      obtain ⟨rfl, hbB⟩ := ha (by omega)
      obtain ⟨rv, x0, xs'⟩ := hc k hkn
      have hlk := hl k hkn
      have x := (hb.cell (p := ⟨b, off + k, none⟩) (by show b < N; omega)).trans x0
      have hNr := hb.size
      rw [hN] at hNr
      obtain ⟨a1, b1, o1, c1, rfl, y1, y2⟩ := xs'
      obtain ⟨L, hL⟩ : ∃ L, L = len k := ⟨_, rfl⟩
      rw [← hL] at x hlk y1 y2
      have HL := Lib.hid (And.intro hL (And.intro y1 y2))
      have k0 : 0 ≤ (k : Int) := by omega
      have kn : (k : Int) < (n : Int) := by omega
      obtain ⟨i3, hi3, hz30, hz31, hz32⟩ := info_parts info35
      clear ha hc hl x0 hCI hb hL y1 y2
      by_cases h0 : L = 0
      · subst h0
        have fin : ∀ (wa : World) g2 cp2 w2, w2.ownsRow N 35 1 (.slice (some ⟨g2, 0, none⟩) (k + 1) cp2) (k + 1) (xs ++ [.slice none 0 0]) → (wr.alloc (.cells #[.slice none 0 0] 35)).grownBy w2 (Value.slice ga k gp).ownBlock → ((Value.slice ga k gp).ownBlock = some g2 ∨ g2 = wr.heap.size + 1) → CI w2 N (.slice (some ⟨g2, 0, none⟩) (k + 1) cp2) (k + 1) (xs ++ [.slice none 0 0]) len f ∧ Below N w w2 := fun wa g2 cp2 w2 r1 r2 r3 => by
          have hal := World.grownBy_alloc wr (.cells #[.slice none 0 0] 35) none
          have e0 := HL.out.1
          have hp := CI.push (a := none) (d := 0) (cap := 0) HK.out.1 hal (fun h => by omega) (fun i hi => by omega) (by rw [← e0]; exact r1) r2 (r3.imp id (fun e => by simpa using e))
          rw [← e0] at hp
          exact ⟨hp, (HK.out.2.alloc hNr _).grown r2 (by simp; omega) (fun j hj => (HK.out.1.own.lt j hj).1)⟩
        have HFin := Lib.hid fin; clear fin
        cases a1 with
        | none =>
          go_wp2_with (at_builtin; refine (wpList_append_lies _ rfl (.tmp 16) (.tmp 18) 26 rfl N 35 i3 _ 1 24 und26 hi3 hz30 hz31 hz32 rfl (by omega) (.slice ga k gp) k xs rfl (HK.out.1.own.alloc _) ⟨wr.heap.size, 0, none⟩ 1 1 [.slice none 0 0] rfl rfl (World.news_of_block (cs := #[.slice none 0 0]) (MapKept.heap_alloc wr _).1) (by simp [Value.oneCell']) (by omega) (by unfold maxLen; omega) (by omega) (by simp; omega) (wr.heap.size + 1) (by simp) ?_); intro g2 cp2 w2 r1 r2 r3 r4; have HR := Lib.hid (HFin.out wr g2 cp2 w2 r1 r2 r3); clear r1 r2 r3 r4)
          exact ⟨⟨k + 1, _, by omega, rfl, HR.out.1, HR.out.2⟩, by simp [intOf]; omega⟩
        | some ad =>
          go_wp2_with (at_builtin; refine (wpList_append_lies _ rfl (.tmp 16) (.tmp 18) 26 rfl N 35 i3 _ 1 24 und26 hi3 hz30 hz31 hz32 rfl (by omega) (.slice ga k gp) k xs rfl (HK.out.1.own.alloc _) ⟨wr.heap.size, 0, none⟩ 1 1 [.slice none 0 0] rfl rfl (World.news_of_block (cs := #[.slice none 0 0]) (MapKept.heap_alloc wr _).1) (by simp [Value.oneCell']) (by omega) (by unfold maxLen; omega) (by omega) (by simp; omega) (wr.heap.size + 1) (by simp) ?_); intro g2 cp2 w2 r1 r2 r3 r4; have HR := Lib.hid (HFin.out wr g2 cp2 w2 r1 r2 r3); clear r1 r2 r3 r4)
          exact ⟨⟨k + 1, _, by omega, rfl, HR.out.1, HR.out.2⟩, by simp [intOf]; omega⟩
      · have hpos : 0 < L := by omega
        obtain ⟨rfl, hb1⟩ := HL.out.2.1 hpos
        have news : ∀ j u, (nums (f k) L)[j]? = some u → wr.cell? ((⟨b1, o1, none⟩ : Addr).add j) = some u := fun j u hu => by
          have hj : j < L := by have := (List.getElem?_eq_some_iff.1 hu).1; simpa [nums] using this
          simp only [nums, List.getElem?_map, List.getElem?_range hj, Option.map_some, Option.some.injEq] at hu
          subst hu
          rw [Addr.add_mid]
          exact (HK.out.2.cell (p := ⟨b1, o1 + j, none⟩) (by show b1 < N; omega)).trans (HL.out.2.2 j hj)
        have one : ∀ u ∈ nums (f k) L, u.oneCell' = true := fun u hu => by
          simp only [nums, List.mem_map] at hu
          obtain ⟨i, _, rfl⟩ := hu
          rfl
        have HNW := Lib.hid (And.intro news one); clear news one
        obtain ⟨j0, hj0, hy0, hy1, hy2⟩ := info_parts info3
        have fin : ∀ g1 cp1 w1, w1.ownsRow N 3 1 (.slice (some ⟨g1, 0, none⟩) (0 + L) cp1) (0 + L) ([] ++ nums (f k) L) → wr.grownBy w1 (Value.slice none 0 0).ownBlock → ((Value.slice none 0 0).ownBlock = some g1 ∨ g1 = wr.heap.size) → g1 < w1.heap.size →
            w1.ownsRow N 35 1 (.slice ga k gp) k xs ∧ N ≤ w1.heap.size ∧ ∀ g2 cp2 w2, w2.ownsRow N 35 1 (.slice (some ⟨g2, 0, none⟩) (k + 1) cp2) (k + 1) (xs ++ [.slice (some ⟨g1, 0, none⟩) L cp1]) → (w1.alloc (.cells #[.slice (some ⟨g1, 0, none⟩) L cp1] 35)).grownBy w2 (Value.slice ga k gp).ownBlock → ((Value.slice ga k gp).ownBlock = some g2 ∨ g2 = w1.heap.size + 1) →
              CI w2 N (.slice (some ⟨g2, 0, none⟩) (k + 1) cp2) (k + 1) (xs ++ [.slice (some ⟨g1, 0, none⟩) L cp1]) len f ∧ Below N w w2 := fun g1 cp1 w1 s1 s2 s3 s4 => by
          have s2' : wr.grownBy w1 none := s2
          have hg1 : g1 = wr.heap.size := by simpa [Value.ownBlock] using s3
          have hs1 := s2'.size
          refine ⟨HK.out.1.own.kept s2' (by cases ga <;> simp [Value.ownBlock]), by omega, fun g2 cp2 w2 r1 r2 r3 => ?_⟩
          have hal := World.grownBy_alloc w1 (.cells #[.slice (some ⟨g1, 0, none⟩) L cp1] 35) none
          have hgg := grownBy_trans s2' hal
          have e0 := HL.out.1
          rw [Nat.zero_add, List.nil_append] at s1
          have hcell : ∀ i, i < L → (w1.alloc (.cells #[.slice (some ⟨g1, 0, none⟩) L cp1] 35)).cell? ⟨g1, i, none⟩ = some (.int .i64 (f k i)) := fun i hi => by
            have := s1.cells (g := g1) rfl i (.int .i64 (f k i)) (by simp [nums, hi])
            rw [Addr.add_mid, Nat.zero_add] at this
            exact hal.cell this (by simp)
          have hp := CI.push (a := some ⟨g1, 0, none⟩) (d := g1) (cap := cp1) HK.out.1 hgg (fun _ => ⟨rfl, by omega, by simp; omega, by omega⟩) (by rw [← e0]; exact hcell) (by rw [← e0]; exact r1) r2 (r3.imp id (fun e => by simpa using e))
          rw [← e0] at hp
          exact ⟨hp, (HK.out.2.grown hgg hNr (fun j hj => by cases hj)).grown r2 (by simp; omega) (fun j hj => (HK.out.1.own.lt j hj).1)⟩
        have HFin := Lib.hid fin; clear fin
        go_wp2_with (first
          | (at_builtin; refine (wpList_append_lies _ rfl (.tmp 13) (.tmp 14) 35 rfl N 3 j0 _ 1 8 und35 hj0 hy0 hy1 hy2 rfl (by omega) (.slice none 0 0) 0 [] rfl (World.ownsRow_nil _ _ _ _) ⟨b1, o1, none⟩ L c1 (nums (f k) L) rfl (by simp [nums]) HNW.out.1 HNW.out.2 hpos (by unfold maxLen; omega) (by omega) (by omega) wr.heap.size rfl ?_); intro g1 cp1 w1 s1 s2 s3 s4; have H1 := Lib.hid (HFin.out g1 cp1 w1 s1 s2 s3 s4); have hw1 := H1.out.2.1; clear s1 s2 s3 s4)
          | (at_builtin; refine (wpList_append_lies _ rfl (.tmp 16) (.tmp 18) 26 rfl N 35 i3 _ 1 24 und26 hi3 hz30 hz31 hz32 rfl (by omega) (.slice ga k gp) k xs rfl (H1.out.1.alloc _) ⟨w1.heap.size, 0, none⟩ 1 1 [.slice (some ⟨g1, 0, none⟩) L cp1] rfl rfl (World.news_of_block (cs := #[.slice (some ⟨g1, 0, none⟩) L cp1]) (MapKept.heap_alloc w1 _).1) (by simp [Value.oneCell']) (by omega) (by unfold maxLen; omega) (by omega) (by simp; omega) (w1.heap.size + 1) (by simp) ?_); intro g2 cp2 w2 r1 r2 r3 r4; have HR := Lib.hid (H1.out.2.2 g2 cp2 w2 r1 r2 r3); clear r1 r2 r3 r4))
        exact ⟨⟨k + 1, _, by omega, rfl, HR.out.1, HR.out.2⟩, by simp [intOf]; omega⟩
    · obtain rfl : k = n := by omega
      clear hCI hb
      go_wp2
      go_ret
      exact ⟨_, _, rfl, hN ▸ HK.out.1, hN ▸ HK.out.2⟩
end Go.Proofs.Ytlckpgahijlmoaa
namespace Go.Proofs.Ytlckpgahijlmoaa
open Go.RowKit Go.Shelf

def sameB (n : Nat) (f : Nat → Int) (m : Nat) (g : Nat → Int) : Bool := n == m && (List.range n).all (fun i => f i == g i)
theorem all_range_false {p : Nat → Bool} {n k : Nat} (hk : k < n) (h : p k = false) : (List.range n).all p = false := by
  cases hq : (List.range n).all p with
  | false => rfl
  | true =>
    have := List.all_eq_true.1 hq k (List.mem_range.2 hk)
    rw [h] at this; cases this
set_option maxRecDepth 20000 in
set_option maxHeartbeats 1000000 in
theorem SameInts_walk (n m : Nat) (f g : Nat → Int) (hn : n < 4611686018427387904) (B : Nat) (w : World) (v u : Value) (hv : SI B w v n f) (hu : SI B w u m g) :
    Calls Try.prog 31 #[v, u] w fun e w' => e = .returned (.bool (sameB n f m g)) ∧ Below w.heap.size w w' := by
  obtain ⟨a, b, off, cap, rfl, ha, hc⟩ := hv
  obtain ⟨a', b', off', cap', rfl, ha', hc'⟩ := hu
  have HC := Lib.hid (And.intro ha (And.intro hc (And.intro ha' hc'))); clear ha hc ha' hc'
  by_cases hnm : n = m
  · subst hnm
    have hbe := natbeq_true (rfl : n = n)
    go_enter Try.func31, Try.ntmps31
    go_wp2
    go_loopw [5] (fun i wr => ∃ k : Nat, k ≤ n ∧ i = .int .i64 k ∧ (List.range k).all (fun i => f i == g i) = true ∧ Below w.heap.size w wr ∧ (∀ p : Addr, wr.cell? p = w.cell? p)) (fun i _ => n - (intOf i).toNat)
    case atStart => exact ⟨0, by omega, rfl, rfl, Below.refl _ _, fun _ => rfl⟩
    case round =>
      obtain ⟨k, hk, rfl, hall, hb, hcell⟩ := hrel
      have HK := Lib.hid (And.intro hall (And.intro hb hcell))
      rcases Nat.lt_or_ge k n with hkn | hkn
      · obtain ⟨ha, hc, ha', hc'⟩ := HC.out
        obtain ⟨rfl, _⟩ := ha (by omega)
        obtain ⟨rfl, _⟩ := ha' (by omega)
        have x := (hcell ⟨b, off + k, none⟩).trans (hc k hkn)
        have y := (hcell ⟨b', off' + k, none⟩).trans (hc' k hkn)
        have k0 : 0 ≤ (k : Int) := by omega
        have kn : (k : Int) < (n : Int) := by omega
        clear hall hb hcell ha hc ha' hc'
        obtain ⟨X, hX⟩ : ∃ X, X = f k := ⟨_, rfl⟩
        obtain ⟨Y, hY⟩ : ∃ Y, Y = g k := ⟨_, rfl⟩
        rw [← hX] at x
        rw [← hY] at y
        have HXY := Lib.hid (And.intro hX hY); clear hX hY
        by_cases hq : X = Y
        · subst hq
          go_wp2
          go_still (by kernel_rfl)
          go_wp2
          go_roundw
          case rel =>
            refine ⟨k + 1, by omega, rfl, ?_, below_dr HK.out.2.1, fun p => HK.out.2.2 p⟩
            rw [List.range_succ, List.all_append, HK.out.1]
            simp [← HXY.out.1, ← HXY.out.2]
          case measure => simp [intOf]; omega
        · have hqq : (X != Y) = true := by simpa using hq
          have HQ := Lib.hid hq; clear hq
          go_wp2
          go_still (by kernel_rfl)
          go_wp2
          go_ret
          refine ⟨?_, below_dr HK.out.2.1⟩
          rw [sameB, all_range_false hkn (by rw [← HXY.out.1, ← HXY.out.2]; simpa using HQ.out), Bool.and_false]
          rfl
      · obtain rfl : k = n := by omega
        clear hall hb hcell
        go_wp2
        go_ret
        refine ⟨?_, HK.out.2.1⟩
        rw [sameB, HK.out.1]
        simp
  · have hbe : ((n : Int) != (m : Int)) = true := by simp; omega
    have HN := Lib.hid hnm; clear hnm
    go_enter Try.func31, Try.ntmps31
    go_wp2
    go_ret
    refine ⟨?_, Below.refl _ _⟩
    have : (n == m) = false := by simpa using HN.out
    rw [sameB, this, Bool.false_and]
    rfl

def sameL (n : Nat) (ln : Nat → Nat) (f : Nat → Nat → Int) (m : Nat) (lm : Nat → Nat) (g : Nat → Nat → Int) : Bool := n == m && (List.range n).all (fun k => sameB (ln k) (f k) (lm k) (g k))
set_option maxRecDepth 20000 in
set_option maxHeartbeats 2000000 in
theorem SameLists_walk (n m : Nat) (ln lm : Nat → Nat) (f g : Nat → Nat → Int) (hn : n < 4611686018427387904) (hl : ∀ k, k < n → ln k < 4611686018427387904) (B : Nat) (w : World) (hB : B ≤ w.heap.size) (v u : Value) (hv : LLs B w v n ln f) (hu : LLs B w u m lm g) :
    Calls Try.prog 35 #[v, u] w fun e w' => e = .returned (.bool (sameL n ln f m lm g)) ∧ Below w.heap.size w w' := by
  have HV := Lib.hid (And.intro hv hu)
  obtain ⟨a, b, off, cap, rfl, ha, hc⟩ := hv
  obtain ⟨a', b', off', cap', rfl, ha', hc'⟩ := hu
  have HC := Lib.hid (And.intro ha (And.intro hc (And.intro ha' hc'))); clear ha hc ha' hc'
  by_cases hnm : n = m
  · subst hnm
    have hbe := natbeq_true (rfl : n = n)
    go_enter Try.func35, Try.ntmps35
    go_wp2
    generalize hN : w.heap.size = N at *
    go_loopw [13] (fun i wr => ∃ k : Nat, k ≤ n ∧ i = .int .i64 k ∧ (List.range k).all (fun k => sameB (ln k) (f k) (lm k) (g k)) = true ∧ Below N w wr) (fun i _ => n - (intOf i).toNat)
    case atStart => exact ⟨0, by omega, rfl, rfl, Below.refl _ _⟩
    case round =>
      obtain ⟨k, hk, rfl, hall, hb⟩ := hrel
      have HK := Lib.hid (And.intro hall hb)
      rcases Nat.lt_or_ge k n with hkn | hkn
      · obtain ⟨ha, hc, ha', hc'⟩ := HC.out
        obtain ⟨rfl, hbB⟩ := ha (by omega)
        obtain ⟨rfl, hbB'⟩ := ha' (by omega)
        obtain ⟨rv, x0, xs⟩ := hc k hkn
        obtain ⟨ru, y0, ys⟩ := hc' k hkn
        have x := (hb.cell (p := ⟨b, off + k, none⟩) (by show b < N; omega)).trans x0
        have y := (hb.cell (p := ⟨b', off' + k, none⟩) (by show b' < N; omega)).trans y0
        have hbd : Below B w wr.drew := below_dr (hb.mono hB)
        have S31 := SameInts_walk (ln k) (lm k) (f k) (g k) (hl k hkn) B wr.drew rv ru (xs.below hbd) (ys.below hbd)
        obtain ⟨a1, b1, o1, c1, rfl, _, _⟩ := xs
        obtain ⟨a2, b2, o2, c2, rfl, _, _⟩ := ys
        have k0 : 0 ≤ (k : Int) := by omega
        have kn : (k : Int) < (n : Int) := by omega
        obtain ⟨r, hr⟩ : ∃ r, r = sameB (ln k) (f k) (lm k) (g k) := ⟨_, rfl⟩
        rw [← hr] at S31
        have HS := Lib.hid (And.intro S31 hr)
        have xd : wr.drew.cell? ⟨b, off + k, none⟩ = _ := x
        have yd : wr.drew.cell? ⟨b', off' + k, none⟩ = _ := y
        have hbl := lt_of_cell x
        have hbl' := lt_of_cell y
        simp only at hbl hbl'
        clear hall hb ha hc ha' hc' S31 hr x0 y0 hbd
        go_wp2
        go_region_held3 (fun w' => w'.cell? ⟨b, off + k, none⟩ = some (.slice a1 (ln k) c1) ∧ w'.cell? ⟨b', off' + k, none⟩ = some (.slice a2 (lm k) c2))
          (first
            | (with_reducible exact ⟨xd, yd⟩)
            | (with_reducible exact ⟨xe, ye⟩))
          (first | (go_at_call 31; (with_reducible refine HS.out.1.mono ?_); rintro e w1 ⟨rfl, hb1⟩; have xe := (hb1.cell (p := ⟨b, off + k, none⟩) (show b < wr.drew.heap.size from hbl)).trans xd; have ye := (hb1.cell (p := ⟨b', off' + k, none⟩) (show b' < wr.drew.heap.size from hbl')).trans yd; have H1 := Lib.hid hb1; clear hb1))
        have hB1 : Below N w w1 := (below_dr HK.out.2).trans (H1.out.mono (by have := HK.out.2.size; show N ≤ wr.heap.size; omega))
        have HB1 := Lib.hid hB1; clear hB1
        cases r with
        | true =>
          go_wp2
          go_roundw
          case rel =>
            refine ⟨k + 1, by omega, rfl, ?_, HB1.out⟩
            rw [List.range_succ, List.all_append, HK.out.1]
            simp [← HS.out.2]
          case measure => simp [intOf]; omega
        | false =>
          go_wp2
          go_ret
          refine ⟨?_, hN ▸ HB1.out⟩
          rw [sameL, all_range_false hkn HS.out.2.symm, Bool.and_false]
          rfl
      · obtain rfl : k = n := by omega
        clear hall hb
        go_wp2
        go_ret
        refine ⟨?_, hN ▸ HK.out.2⟩
        rw [sameL, HK.out.1]
        simp
  · have hbe : ((n : Int) != (m : Int)) = true := by simp; omega
    have HN := Lib.hid hnm; clear hnm
    go_enter Try.func35, Try.ntmps35
    go_wp2
    go_ret
    refine ⟨?_, Below.refl _ _⟩
    have : (n == m) = false := by simpa using HN.out
    rw [sameL, this, Bool.false_and]
    rfl
end Go.Proofs.Ytlckpgahijlmoaa
