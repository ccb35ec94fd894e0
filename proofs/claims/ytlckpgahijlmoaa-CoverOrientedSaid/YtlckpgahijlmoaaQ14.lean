/- The one gluing that sane reads: its text, its words, its faces. -/
import Derived.Test.YtlckpgahijlmoaaQ13
/- R02's classes: singles, root, identify, numbered. No condition. -/
namespace Go.Proofs.Ytlckpgahijlmoaa
open Go.RowKit

/-- the parents of n elements lie in the block b; r: the root of each -/
def UR (W : World) (b n : Nat) (r : Nat → Nat) : Prop := ∃ u : Nat → Nat, IntRow W b n (fun i => ((u i : Nat) : Int)) ∧ Reps n u r
theorem UR.kept {W W' : World} {b n : Nat} {r : Nat → Nat} (h : UR W b n r) {row : Option Nat} (hg : W.grownBy W' row) (hne : some b ≠ row) : UR W' b n r := by
  obtain ⟨u, h1, h2⟩ := h
  exact ⟨u, rowIs_kept h1 hg hne, h2⟩
theorem UR.below {W W' : World} {b n B : Nat} {r : Nat → Nat} (h : UR W b n r) (hb : Below B W W') (hB : b < B) : UR W' b n r := by
  obtain ⟨u, ⟨c, h1, h3, h4⟩, h2⟩ := h
  exact ⟨u, ⟨c, (hb.block b hB).trans h1, h3, h4⟩, h2⟩
theorem UR.facts {W : World} {b n : Nat} {r : Nat → Nat} (h : UR W b n r) : (∀ i, i < n → r i ≤ i) ∧ (∀ i, i < n → r (r i) = r i) := by
  obtain ⟨u, _, hR⟩ := h
  exact ⟨hR.rle, hR.idem⟩
theorem UR.lt {W : World} {b n : Nat} {r : Nat → Nat} (h : UR W b n r) : b < W.heap.size := by
  obtain ⟨u, h1, _⟩ := h
  exact h1.lt
theorem UR.pr {W : World} {b n : Nat} {r : Nat → Nat} (h : UR W b n r) : ∃ u, Reps n u r := by
  obtain ⟨u, _, h1⟩ := h
  exact ⟨u, h1⟩

set_option maxRecDepth 20000 in
set_option maxHeartbeats 1000000 in
theorem singles_walk (n : Nat) (hn : n ≤ 1000000) (w : World) :
    Calls Try.prog 87 #[.int .i64 (n : Int)] w fun e w' => e = .returned (.slice (some ⟨w.heap.size, 0, none⟩) n n) ∧ UR w' w.heap.size n id ∧ Below w.heap.size w w' := by
  have hmk := run_make_row' (P := Try.prog) 35 3 (.int .i64 0) 8 und35 info3 rfl .i64 .i64 n (by omega) (by omega)
  go_enter Try.func87, Try.ntmps87
  go_wp2
  refine wp_named fun W1 hW => ?_
  have hr : IntRow W1 w.heap.size n (fun i => if i < 0 then (i : Int) else 0) := by
    rw [hW]; exact (World.rowIs_made w (.int .i64 0) n 3).congr (fun i _ => by simp)
  have hb : Below w.heap.size w W1 := by rw [hW]; (repeat' (first | assumption | exact Below.refl _ _ | refine below_then ?_ (by assumption) | refine below_al ?_ _ | refine below_dr ?_ | refine below_sc ?_ (by simp <;> omega) _))
  clear hmk hW
  generalize hN : w.heap.size = N at *
  have H1 := Lib.hid (And.intro hr hb); clear hr hb
  go_loopw [9] (fun i wr => ∃ k : Nat, k ≤ n ∧ i = .int .i64 k ∧ IntRow wr N n (fun i => if i < k then (i : Int) else 0) ∧ Below N w wr) (fun i _ => n - (intOf i).toNat)
  case atStart => exact ⟨0, by omega, rfl, H1.out.1, H1.out.2⟩
  case round =>
    clear H1
    obtain ⟨k, hk, rfl, hr, hb⟩ := hrel
    rcases Nat.lt_or_ge k n with hkn | hkn
    · have hc := hr.cell hkn
      have hf := hr.frozen k
      have HK := Lib.hid (And.intro hr hb); clear hr hb
      go_wp2
      go_roundw
      case rel =>
        refine ⟨k + 1, by omega, rfl, (HK.out.1.set k _).congr (fun i hi => ?_), HK.out.2.setCell (Nat.le_refl _) _⟩
        by_cases e : i = k
        · simp [e]
        · have : i < k + 1 ↔ i < k := by omega
          simp [e, this]
      case measure => simp [intOf]; omega
    · obtain rfl : k = n := by omega
      have HK := Lib.hid (And.intro hr hb); clear hr hb
      go_wp2
      go_ret
      rw [hN]
      exact ⟨rfl, ⟨id, HK.out.1.congr (fun i hi => by simp [hi]), fun i _ => Nat.le_refl _, fun _ _ => rfl, fun _ _ _ => rfl⟩, HK.out.2⟩

set_option maxRecDepth 20000 in
set_option maxHeartbeats 1000000 in
theorem rroot_walk (b n : Nat) (r : Nat → Nat) (i0 : Nat) (hi0 : i0 < n) (_hn : n ≤ 1000000) (w : World) (hU : UR w b n r) :
    Calls Try.prog 120 #[.slice (some ⟨b, 0, none⟩) n n, .int .i64 (i0 : Int)] w fun e w' => e = .returned (.int .i64 ((r i0 : Nat) : Int)) ∧ w = w' := by
  have HU := Lib.hid hU; clear hU
  go_enter Try.func120, Try.ntmps120
  go_wp2
  go_loop [1] (fun i => ∃ k : Nat, k < n ∧ i = .int .i64 k ∧ r k = r i0) (fun i => (intOf i).toNat)
  case atStart => exact ⟨i0, hi0, rfl, rfl⟩
  case round =>
    obtain ⟨k, hk, rfl, hrk⟩ := hrel
    obtain ⟨u, hu, hR⟩ := HU.out
    have c1 : w.cell? ⟨b, k, none⟩ = some (.int .i64 ((u k : Nat) : Int)) := hu.cell hk
    have hle := hR.le k hk
    by_cases e : u k = k
    · have he := natbeq_true e
      have he' := natbne_false e
      have HF := Lib.hid (And.intro (hR.fix k hk e) hrk)
      clear hrk hu hR e
      go_wp2
      go_ret
      exact ⟨by rw [← HF.out.2, HF.out.1]; rfl, rfl⟩
    · have he := natbeq_false e
      have he' := natbne_true e
      have HR := Lib.hid (And.intro (hR.root k hk) hrk)
      have hlt : u k < k := by omega
      clear hrk hu hR e
      generalize u k = a at *
      go_wp2
      go_round
      case rel => exact ⟨a, by omega, rfl, by rw [HR.out.1, HR.out.2]⟩
      case measure => simp [intOf]; omega

set_option maxRecDepth 20000 in
set_option maxHeartbeats 1000000 in
theorem identify_walk (b n : Nat) (r : Nat → Nat) (i j : Nat) (hi : i < n) (hj : j < n) (hn : n ≤ 1000000) (w : World) (hU : UR w b n r) :
    Calls Try.prog 88 #[.slice (some ⟨b, 0, none⟩) n n, .int .i64 (i : Int), .int .i64 (j : Int)] w fun e w' => e = .returned (.tuple #[]) ∧ UR w' b n (joinR r i j) ∧ w.grownBy w' (some b) := by
  have HU := Lib.hid hU; clear hU
  go_enter Try.func88, Try.ntmps88
  go_wp2_with fail
  refine (rroot_walk b n r i hi hn _ HU.out).mono ?_
  rintro e w1 ⟨rfl, rfl⟩
  go_wp2_with fail
  refine (rroot_walk b n r j hj hn _ HU.out).mono ?_
  rintro e w2 ⟨rfl, rfl⟩
  obtain ⟨u, hu, hR⟩ := HU.out
  have hri := hR.rle i hi
  have hrj := hR.rle j hj
  have hJ := hR.join i j hi hj
  have fin : ∀ a c : Nat, max (r i) (r j) = a → min (r i) (r j) = c → UR (w.setCell ⟨b, a, none⟩ (.int .i64 (c : Int))) b n (joinR r i j) ∧ w.grownBy (w.setCell ⟨b, a, none⟩ (.int .i64 (c : Int))) (some b) := by
    intro a c e1 e2
    rw [e1, e2] at hJ
    refine ⟨⟨_, (hu.set a _).congr (fun i _ => ?_), hJ⟩, grownBy_setCell w b a (.int .i64 (c : Int))⟩
    by_cases e : i = a
    · simp [e]
    · simp [e]
  have HF := Lib.hid fin; clear fin
  have f1 := hu.frozen (r j)
  have f2 := hu.frozen (r i)
  obtain ⟨v1, v2⟩ : (∃ x, w.cell? ⟨b, r j, none⟩ = some x) ∧ (∃ x, w.cell? ⟨b, r i, none⟩ = some x) := ⟨⟨_, hu.cell (i := r j) (by omega)⟩, ⟨_, hu.cell (i := r i) (by omega)⟩⟩
  obtain ⟨x1, v1⟩ := v1
  obtain ⟨x2, v2⟩ := v2
  clear hu hR hJ
  have hrin : r i < n := by omega
  have hrjn : r j < n := by omega
  generalize r i = a at *
  generalize r j = c at *
  rcases Nat.lt_or_ge a c with e | e
  · have he : decide ((a : Int) < (c : Int)) = true := by simp; omega
    have e1 : max a c = c := by omega
    have e2 : min a c = a := by omega
    have HF := Lib.hid (HF.out c a e1 e2)
    clear e1 e2
    go_wp2
    go_end0
    exact ⟨rfl, HF.out⟩
  · have he : decide ((a : Int) < (c : Int)) = false := by simp; omega
    have e1 : max a c = a := by omega
    have e2 : min a c = c := by omega
    have HF := Lib.hid (HF.out a c e1 e2)
    clear e1 e2
    go_wp2
    go_end0
    exact ⟨rfl, HF.out⟩

set_option maxRecDepth 20000 in
set_option maxHeartbeats 1000000 in
theorem numbered_walk (b n : Nat) (r : Nat → Nat) (hn : n ≤ 1000000) (w : World) (hU : UR w b n r) :
    Calls Try.prog 89 #[.slice (some ⟨b, 0, none⟩) n n] w fun e w' => e = .returned (.tuple #[.slice (some ⟨w.heap.size, 0, none⟩) n n, .int .i64 (cnt r n : Nat)]) ∧ IntRow w' w.heap.size n (fun i => (cnt r (r i) : Nat)) ∧ Below w.heap.size w w' := by
  have hmk := run_make_row' (P := Try.prog) 35 3 (.int .i64 0) 8 und35 info3 rfl .i64 .i64 n (by omega) (by omega)
  have hbw := hU.lt
  have HF := Lib.hid hU.facts
  have HU := Lib.hid hU; clear hU
  go_enter Try.func89, Try.ntmps89
  go_wp2
  refine wp_named fun W1 hW => ?_
  have hr : IntRow W1 w.heap.size n (fun i => if i < 0 then (cnt r (r i) : Nat) else 0) := by
    rw [hW]; exact (World.rowIs_made w (.int .i64 0) n 3).congr (fun i _ => by simp)
  have hb : Below w.heap.size w W1 := by rw [hW]; (repeat' (first | assumption | exact Below.refl _ _ | refine below_then ?_ (by assumption) | refine below_al ?_ _ | refine below_dr ?_ | refine below_sc ?_ (by simp <;> omega) _))
  clear hmk hW
  generalize hN : w.heap.size = N at *
  have H1 := Lib.hid (And.intro hr hb); clear hr hb
  go_loopw [13, 5] (fun i m wr => ∃ k : Nat, k ≤ n ∧ i = .int .i64 k ∧ m = .int .i64 (cnt r k : Nat) ∧ IntRow wr N n (fun i => if i < k then (cnt r (r i) : Nat) else 0) ∧ Below N w wr) (fun i _ _ => n - (intOf i).toNat)
  case atStart => exact ⟨0, by omega, rfl, rfl, H1.out.1, H1.out.2⟩
  case round =>
    clear H1
    obtain ⟨k, hk, rfl, rfl, hu, hb⟩ := hrel
    have HK := Lib.hid (And.intro hu hb)
    clear hu hb
    rcases Nat.lt_or_ge k n with hkn | hkn
    · go_wp2_with fail
      refine (rroot_walk b n r k hkn hn _ (HU.out.below HK.out.2 hbw)).mono ?_
      rintro e w2 ⟨rfl, rfl⟩
      have hu2 := HK.out.1
      have hrk := HF.out.1 k hkn
      have hcl := cnt_le r k
      have hf := hu2.frozen k
      have hc := hu2.cell hkn
      have hc2 := hu2.cell (i := r k) (by omega)
      clear hu2
      by_cases e : r k = k
      · have he := natbeq_true e
        clear hc2
        have hcn : cnt r (k + 1) = cnt r k + 1 := by simp [cnt, e]
        have HE := Lib.hid (And.intro e hcn); clear e hcn
        generalize hm : cnt r k = m at *
        generalize hrr : r k = rk at hrk he hc ⊢
        have HRR := Lib.hid hrr; clear hrr
        have HM := Lib.hid hm; clear hm
        go_wp2
        go_roundw
        case rel =>
          obtain ⟨e, hcn⟩ := HE.out
          refine ⟨k + 1, by omega, rfl, by rw [hcn]; rfl, (HK.out.1.set k _).congr (fun i hi => ?_), HK.out.2.setCell (Nat.le_refl _) _⟩
          by_cases ei : i = k
          · subst ei; simp [e, HM.out]
          · have : i < k + 1 ↔ i < k := by omega
            simp [ei, this]
        case measure => simp [intOf]; omega
      · have he := natbeq_false e
        have hlt : r k < k := by omega
        simp only [hlt, if_true, HF.out.2 k hkn] at hc2
        have hcn : cnt r (k + 1) = cnt r k := by simp [cnt, e]
        have HE := Lib.hid (And.intro e hcn); clear e hcn
        generalize hm : cnt r k = m at *
        generalize hrr : r k = rk at hrk hlt he hc2 ⊢
        have HRR := Lib.hid hrr
        generalize hcr : cnt r rk = cr at *
        have hrkn : rk < n := by omega
        have HCR := Lib.hid hcr
        clear hrr hcr hm
        go_wp2
        go_roundw
        case rel =>
          obtain ⟨e, hcn⟩ := HE.out
          have hrk0 := HRR.out
          refine ⟨k + 1, by omega, rfl, by rw [hcn], (HK.out.1.set k _).congr (fun i hi => ?_), HK.out.2.setCell (Nat.le_refl _) _⟩
          by_cases ei : i = k
          · subst ei; simp [hrk0, HCR.out]
          · have : i < k + 1 ↔ i < k := by omega
            simp [ei, this]
        case measure => simp [intOf]; omega
    · have : k = n := by omega
      subst this
      go_wp2
      go_ret2
      rw [hN]
      exact ⟨rfl, HK.out.1.congr (fun i hi => by simp [hi]), HK.out.2⟩
end Go.Proofs.Ytlckpgahijlmoaa
/- R01.Words: the words of a text. -/
namespace Go.Proofs.Ytlckpgahijlmoaa
open Go.RowKit Go.Shelf

theorem und144 : Try.prog.underlying 144 = some (.slice 9) := by kernel_rfl
theorem und9 : Try.prog.underlying 9 = some .string := by kernel_rfl
theorem info9 : (Try.prog.info? 9).map (fun i => (i.zero, i.size, i.bytes)) = some (some (.string ⟨#[]⟩), 1, 16) := by kernel_rfl

/-- the byte of a text at a place -/
def byteAt (s : ByteArray) (i : Nat) : Int := if h : i < s.size then ((s[i]'h).toNat : Int) else 0
theorem run_byte (s : ByteArray) {i : Nat} (hi : i < s.size) (w : World) : (Instr.index 9 (.string s) (.int .i64 (i : Int))).run Try.prog w = .ok (.int .u8 (byteAt s i)) w := by
  rw [run_index_string _ _ _ _ _ und9, dif_pos ⟨by omega, by omega⟩, byteAt, dif_pos hi]
  simp

/-- the state ahead of a round: where the word at hand begins (-1: nowhere), and the words so far -/
def wst (s : ByteArray) : Nat → Int × List ByteArray
  | 0 => (-1, [])
  | i + 1 =>
    let q := wst s i
    let b := i == s.size || byteAt s i == 32
    let fr : Int := if !b && decide (q.1 < 0) then (i : Int) else q.1
    if b && decide (0 ≤ fr) then (-1, q.2 ++ [s.extract fr.toNat i]) else (fr, q.2)
theorem wst_new {s : ByteArray} {i : Nat} (hb : (i == s.size || byteAt s i == 32) = false) (h : (wst s i).1 < 0) : wst s (i + 1) = ((i : Int), (wst s i).2) := by
  rw [wst]; simp only [hb]; simp [h]
theorem wst_in {s : ByteArray} {i : Nat} (hb : (i == s.size || byteAt s i == 32) = false) (h : ¬ (wst s i).1 < 0) : wst s (i + 1) = wst s i := by
  rw [wst]; simp only [hb]; simp [h]
theorem wst_out {s : ByteArray} {i : Nat} (hb : (i == s.size || byteAt s i == 32) = true) (h : (wst s i).1 < 0) : wst s (i + 1) = wst s i := by
  rw [wst]; simp only [hb]
  have : ¬ (0 ≤ (wst s i).1) := by omega
  simp [this]
theorem wst_end {s : ByteArray} {i : Nat} (hb : (i == s.size || byteAt s i == 32) = true) (h : ¬ (wst s i).1 < 0) : wst s (i + 1) = (-1, (wst s i).2 ++ [s.extract (wst s i).1.toNat i]) := by
  rw [wst]; simp only [hb]
  have : 0 ≤ (wst s i).1 := by omega
  simp [this]
theorem wst_cases (s : ByteArray) (i : Nat) : (wst s (i + 1) = ((i : Int), (wst s i).2)) ∨ (wst s (i + 1) = wst s i) ∨ (0 ≤ (wst s i).1 ∧ wst s (i + 1) = (-1, (wst s i).2 ++ [s.extract (wst s i).1.toNat i])) := by
  by_cases h : (wst s i).1 < 0
  · cases hb : (i == s.size || byteAt s i == 32) with
    | false => exact .inl (wst_new hb h)
    | true => exact .inr (.inl (wst_out hb h))
  · cases hb : (i == s.size || byteAt s i == 32) with
    | false => exact .inr (.inl (wst_in hb h))
    | true => exact .inr (.inr ⟨by omega, wst_end hb h⟩)
theorem wst_bound (s : ByteArray) (i : Nat) : -1 ≤ (wst s i).1 ∧ (wst s i).1 < i := by
  induction i with
  | zero => simp [wst]
  | succ i ih =>
    obtain ⟨h1, h2⟩ := ih
    rcases wst_cases s i with e | e | ⟨_, e⟩ <;> rw [e]
    · simp only; omega
    · omega
    · simp only; omega
theorem wst_len (s : ByteArray) (i : Nat) : (wst s i).2.length ≤ i := by
  induction i with
  | zero => simp [wst]
  | succ i ih =>
    rcases wst_cases s i with e | e | ⟨_, e⟩ <;> rw [e]
    · simp only; omega
    · omega
    · simp; omega
def wordsP (s : ByteArray) : List ByteArray := (wst s (s.size + 1)).2
def strs (l : List ByteArray) : List Value := l.map .string

set_option maxRecDepth 100000 in
set_option maxHeartbeats 2000000 in
theorem Words_walk (s : ByteArray) (hs : s.size ≤ 200000) (w : World) :
    Calls Try.prog 80 #[.string s] w fun e w' => ∃ u, e = .returned u ∧ w'.ownsRow w.heap.size 9 1 u (wordsP s).length (strs (wordsP s)) ∧ Below w.heap.size w w' := by
  go_enter Try.func80, Try.ntmps80
  go_wp2
  generalize hN : w.heap.size = N at *
  go_loopw [3, 4, 5] (fun u fr i wr => ∃ k : Nat, k ≤ s.size + 1 ∧ i = .int .i64 k ∧ fr = .int .i64 (wst s k).1 ∧ wr.ownsRow N 9 1 u (wst s k).2.length (strs (wst s k).2) ∧ Below N w wr) (fun _ _ i _ => s.size + 1 - (intOf i).toNat)
  case atStart => exact ⟨0, by omega, rfl, rfl, World.ownsRow_nil _ _ _ _, Below.refl _ _⟩
  case round =>
    obtain ⟨k, hk, rfl, rfl, hO, hb⟩ := hrel
    obtain ⟨ga, gp, rfl⟩ := ownsRow_form hO
    have HK := Lib.hid (And.intro hO hb)
    have hNr := hb.size
    rw [hN] at hNr
    have hbd := wst_bound s k
    have hlen := wst_len s k
    obtain ⟨fr, hfr⟩ : ∃ fr, fr = (wst s k).1 := ⟨_, rfl⟩
    obtain ⟨L, hL⟩ : ∃ L, L = (wst s k).2.length := ⟨_, rfl⟩
    rw [← hfr] at hbd ⊢
    rw [← hL] at hlen HK ⊢
    have hbd1 := hbd.1
    have hbd2 := hbd.2
    have HF := Lib.hid (And.intro hfr hL)
    clear hO hb hbd hfr hL
    rcases Nat.lt_or_ge s.size k with hks | hks
    · obtain rfl : k = s.size + 1 := by omega
      have q1 : decide (((s.size + 1 : Nat) : Int) ≤ (s.size : Int)) = false := by simp; omega
      go_wp2
      go_ret
      refine ⟨_, rfl, ?_, hN ▸ HK.out.2⟩
      rw [hN]
      show wr.ownsRow N 9 1 (.slice ga L gp) (wst s (s.size + 1)).2.length _
      rw [← HF.out.2]
      exact HK.out.1
    · have q1 : decide ((k : Int) ≤ (s.size : Int)) = true := by simpa using hks
      have q2 : IntKind.i64.wrap ((k : Int) + 1) = ((k + 1 : Nat) : Int) := by rw [IntWalk.i64_in _ (by omega)]; omega
      have ks : (k : Int) ≤ (s.size : Int) := by omega
      have qb : ((k == s.size || byteAt s k == 32) = true ∧ fr < 0) ∨ ((k == s.size || byteAt s k == 32) = true ∧ ¬ fr < 0) ∨ ((k == s.size || byteAt s k == 32) = false ∧ fr < 0) ∨ ((k == s.size || byteAt s k == 32) = false ∧ ¬ fr < 0) := by
        cases (k == s.size || byteAt s k == 32) <;> simp <;> omega
      have qe : (k = s.size) ∨ (k < s.size ∧ ((k : Int) == (s.size : Int)) = false ∧ (k == s.size) = false) := by
        rcases Nat.lt_or_ge k s.size with h | h
        · exact .inr ⟨h, by simp; omega, by simp; omega⟩
        · exact .inl (by omega)
      have qr : ∀ w, k < s.size → (Instr.index 9 (.string s) (.int .i64 (k : Int))).run Try.prog w = .ok (.int .u8 (byteAt s k)) w := fun w h => run_byte s h w
      rcases qe with qe | ⟨qe, qe1, qe2⟩
      · have qe1 : ((k : Int) == (s.size : Int)) = true := by simp; omega
        have c1 : (k == s.size || byteAt s k == 32) = true := by simp [qe]
        clear qb qr qe
        by_cases c2 : fr < 0
        · have d1 : decide (fr < 0) = true := by simpa using c2
          have d2 : decide (0 ≤ fr) = false := by simp; omega
          have e := wst_out c1 (HF.out.1 ▸ c2)
          go_wp2
          go_roundw
          case rel => exact ⟨k + 1, by omega, rfl, by rw [e, ← HF.out.1], by rw [e, ← HF.out.2]; exact HK.out.1, HK.out.2⟩
          case measure => simp [intOf]; omega
        · have d1 : decide (fr < 0) = false := by simpa using c2
          have d2 : decide (0 ≤ fr) = true := by simp; omega
          have e := wst_end c1 (HF.out.1 ▸ c2)
          have fin : ∀ g2 cp2 w2, w2.ownsRow N 9 1 (.slice (some ⟨g2, 0, none⟩) (L + 1) cp2) (L + 1) (strs (wst s k).2 ++ [.string (s.extract fr.toNat k)]) → (wr.alloc (.cells #[.string (s.extract fr.toNat k)] 9)).grownBy w2 (Value.slice ga L gp).ownBlock → w2.ownsRow N 9 1 (.slice (some ⟨g2, 0, none⟩) (L + 1) cp2) (wst s (k + 1)).2.length (strs (wst s (k + 1)).2) ∧ Below N w w2 := fun g2 cp2 w2 r1 r2 => by
            refine ⟨?_, (HK.out.2.alloc hNr _).grown r2 (by simp; omega) (fun j hj => (HK.out.1.lt j hj).1)⟩
            rw [e, ← HF.out.1]
            simp only [List.length_append, List.length_cons, List.length_nil, ← HF.out.2, strs, List.map_append, List.map_cons, List.map_nil] at r1 ⊢
            exact r1
          have HFin := Lib.hid fin; clear fin
          have f0 : 0 ≤ fr := by omega
          have f1 : fr ≤ (k : Int) := by omega
          obtain ⟨i3, hi3, hz30, hz31, hz32⟩ := info_parts info9
          go_wp2_with (at_builtin; refine (wpList_append_lies _ rfl (.tmp 35) (.tmp 40) 144 rfl N 9 i3 _ 1 16 und144 hi3 hz30 hz31 hz32 rfl (by omega) (.slice ga L gp) L (strs (wst s k).2) rfl (HK.out.1.alloc _) ⟨wr.heap.size, 0, none⟩ 1 1 [.string (s.extract fr.toNat k)] rfl rfl (World.news_of_block (cs := #[.string (s.extract fr.toNat k)]) (MapKept.heap_alloc wr _).1) (by simp [Value.oneCell']) (by omega) (by unfold maxLen; omega) (by omega) (by simp; omega) (wr.heap.size + 1) (by simp) ?_); intro g2 cp2 w2 r1 r2 r3 r4; have HR := Lib.hid (HFin.out g2 cp2 w2 r1 r2); clear r1 r2 r3 r4)
          go_roundw
          case rel => exact ⟨k + 1, by omega, rfl, by rw [e], HR.out.1, HR.out.2⟩
          case measure => simp [intOf]; omega
      · have qr := fun w => qr w qe
        rw [qe2, Bool.false_or] at qb
        rcases qb with ⟨c3, c2⟩ | ⟨c3, c2⟩ | ⟨c3, c2⟩ | ⟨c3, c2⟩
        · have c1 : (k == s.size || byteAt s k == 32) = true := by rw [qe2, c3]; rfl
          have d1 : decide (fr < 0) = true := by simpa using c2
          have d2 : decide (0 ≤ fr) = false := by simp; omega
          have e := wst_out c1 (HF.out.1 ▸ c2)
          go_wp2
          go_roundw
          case rel => exact ⟨k + 1, by omega, rfl, by rw [e, ← HF.out.1], by rw [e, ← HF.out.2]; exact HK.out.1, HK.out.2⟩
          case measure => simp [intOf]; omega
        · have c1 : (k == s.size || byteAt s k == 32) = true := by rw [qe2, c3]; rfl
          have d1 : decide (fr < 0) = false := by simpa using c2
          have d2 : decide (0 ≤ fr) = true := by simp; omega
          have e := wst_end c1 (HF.out.1 ▸ c2)
          have fin : ∀ g2 cp2 w2, w2.ownsRow N 9 1 (.slice (some ⟨g2, 0, none⟩) (L + 1) cp2) (L + 1) (strs (wst s k).2 ++ [.string (s.extract fr.toNat k)]) → (wr.alloc (.cells #[.string (s.extract fr.toNat k)] 9)).grownBy w2 (Value.slice ga L gp).ownBlock → w2.ownsRow N 9 1 (.slice (some ⟨g2, 0, none⟩) (L + 1) cp2) (wst s (k + 1)).2.length (strs (wst s (k + 1)).2) ∧ Below N w w2 := fun g2 cp2 w2 r1 r2 => by
            refine ⟨?_, (HK.out.2.alloc hNr _).grown r2 (by simp; omega) (fun j hj => (HK.out.1.lt j hj).1)⟩
            rw [e, ← HF.out.1]
            simp only [List.length_append, List.length_cons, List.length_nil, ← HF.out.2, strs, List.map_append, List.map_cons, List.map_nil] at r1 ⊢
            exact r1
          have HFin := Lib.hid fin; clear fin
          have f0 : 0 ≤ fr := by omega
          have f1 : fr ≤ (k : Int) := by omega
          obtain ⟨i3, hi3, hz30, hz31, hz32⟩ := info_parts info9
          go_wp2_with (at_builtin; refine (wpList_append_lies _ rfl (.tmp 35) (.tmp 40) 144 rfl N 9 i3 _ 1 16 und144 hi3 hz30 hz31 hz32 rfl (by omega) (.slice ga L gp) L (strs (wst s k).2) rfl (HK.out.1.alloc _) ⟨wr.heap.size, 0, none⟩ 1 1 [.string (s.extract fr.toNat k)] rfl rfl (World.news_of_block (cs := #[.string (s.extract fr.toNat k)]) (MapKept.heap_alloc wr _).1) (by simp [Value.oneCell']) (by omega) (by unfold maxLen; omega) (by omega) (by simp; omega) (wr.heap.size + 1) (by simp) ?_); intro g2 cp2 w2 r1 r2 r3 r4; have HR := Lib.hid (HFin.out g2 cp2 w2 r1 r2); clear r1 r2 r3 r4)
          go_roundw
          case rel => exact ⟨k + 1, by omega, rfl, by rw [e], HR.out.1, HR.out.2⟩
          case measure => simp [intOf]; omega
        · have c1 : (k == s.size || byteAt s k == 32) = false := by rw [qe2, c3]; rfl
          have d1 : decide (fr < 0) = true := by simpa using c2
          have d2 : decide (0 ≤ fr) = false := by simp; omega
          have e := wst_new c1 (HF.out.1 ▸ c2)
          go_wp2
          go_roundw
          case rel => exact ⟨k + 1, by omega, rfl, by rw [e], by rw [e, ← HF.out.2]; exact HK.out.1, HK.out.2⟩
          case measure => simp [intOf]; omega
        · have c1 : (k == s.size || byteAt s k == 32) = false := by rw [qe2, c3]; rfl
          have d1 : decide (fr < 0) = false := by simpa using c2
          have d2 : decide (0 ≤ fr) = true := by simp; omega
          have e := wst_in c1 (HF.out.1 ▸ c2)
          go_wp2
          go_roundw
          case rel => exact ⟨k + 1, by omega, rfl, by rw [e, ← HF.out.1], by rw [e, ← HF.out.2]; exact HK.out.1, HK.out.2⟩
          case measure => simp [intOf]; omega
end Go.Proofs.Ytlckpgahijlmoaa
/- R01.number of one digit. -/
namespace Go.Proofs.Ytlckpgahijlmoaa
open Go.RowKit Go.Shelf

set_option maxRecDepth 100000 in
set_option maxHeartbeats 2000000 in
theorem number_walk (s : ByteArray) (d : Nat) (hs : s.size = 1) (hd : d ≤ 9) (hb : byteAt s 0 = 48 + d) (w : World) :
    Calls Try.prog 81 #[.string s] w fun e w' => e = .returned (.tuple #[.int .i64 d, .bool true]) ∧ w' = w := by
  have hr := fun w => run_byte s (i := 0) (by omega) w
  rw [hb] at hr
  have hr0 : ∀ w, (Instr.index 9 (.string s) (.int .i64 0)).run Try.prog w = .ok (.int .u8 (48 + d)) w := hr
  have e1 : decide (48 + (d : Int) < 48) = false := by simp; omega
  have e2 : decide (57 < 48 + (d : Int)) = false := by simp; omega
  have e3 : IntKind.u8.wrap (48 + (d : Int) - 48) = (d : Int) := by
    have : 48 + (d : Int) - 48 = d := by omega
    rw [this]
    have hd' : d = 0 ∨ d = 1 ∨ d = 2 ∨ d = 3 ∨ d = 4 ∨ d = 5 ∨ d = 6 ∨ d = 7 ∨ d = 8 ∨ d = 9 := by omega
    rcases hd' with rfl | rfl | rfl | rfl | rfl | rfl | rfl | rfl | rfl | rfl <;> rfl
  have e4 : IntKind.i64.wrap (d : Int) = (d : Int) := by rw [IntWalk.i64_in _ (by omega)]
  have hd' : decide ((d : Int) ≤ 1000) = true := by simp; omega
  clear hr hb
  go_enter Try.func81, Try.ntmps81
  go_wp2
  go_loop [4, 5] (fun n i => (n = .int .i64 0 ∧ i = .int .i64 0) ∨ (n = .int .i64 d ∧ i = .int .i64 1)) (fun _ i => 1 - (intOf i).toNat)
  case atStart => exact .inl ⟨rfl, rfl⟩
  case round =>
    rcases hrel with ⟨rfl, rfl⟩ | ⟨rfl, rfl⟩
    · go_wp2
      exact ⟨.inr ⟨rfl, rfl⟩, by simp [intOf]⟩
    · go_wp2
      go_ret2
      exact ⟨rfl, rfl⟩
end Go.Proofs.Ytlckpgahijlmoaa
namespace Go.Proofs.Ytlckpgahijlmoaa
open Go.RowKit Go.Shelf

def txt : ByteArray := ⟨#[49, 32, 48, 32, 49, 50, 51, 48, 32, 48, 32, 51, 48, 49, 50, 32, 48, 32, 49, 50, 51, 48, 32, 48, 32, 51, 48, 49, 50]⟩
/-- the word of the face F's permutation -/
def wrd (F : Nat) : ByteArray := if F % 2 = 0 then ⟨#[49, 50, 51, 48]⟩ else ⟨#[51, 48, 49, 50]⟩
/-- its numbers -/
def pmS (F i : Nat) : Nat := if F % 2 = 0 then (i + 1) % 4 else (i + 3) % 4
def b0 : ByteArray := ⟨#[48]⟩
def b1 : ByteArray := ⟨#[49]⟩
set_option maxRecDepth 20000 in
theorem words_txt : wordsP txt = [b1, b0, wrd 0, b0, wrd 1, b0, wrd 2, b0, wrd 3] := by kernel_rfl
theorem wrd_size (F : Nat) : (wrd F).size = 4 := by unfold wrd; split <;> rfl
theorem wrd_byte (F : Nat) (i : Nat) (hi : i < 4) : byteAt (wrd F) i = 48 + (pmS F i : Nat) := by
  have hi' : i = 0 ∨ i = 1 ∨ i = 2 ∨ i = 3 := by omega
  unfold wrd pmS
  by_cases h : F % 2 = 0
  · simp only [h, if_true]
    rcases hi' with rfl | rfl | rfl | rfl <;> rfl
  · simp only [h, if_false]
    rcases hi' with rfl | rfl | rfl | rfl <;> rfl
theorem b0_byte : byteAt b0 0 = 48 + ((0 : Nat) : Int) := by rfl
theorem b1_byte : byteAt b1 0 = 48 + ((1 : Nat) : Int) := by rfl
theorem txt_len : (strs (wordsP txt)).length = 9 := by rw [words_txt]; rfl
theorem txt_one : (strs (wordsP txt))[0]? = some (.string b1) := by rw [words_txt]; rfl
theorem txt_tet (F : Nat) (hF : F < 4) : (strs (wordsP txt))[1 + 2 * F]? = some (.string b0) := by
  have : F = 0 ∨ F = 1 ∨ F = 2 ∨ F = 3 := by omega
  rw [words_txt]; rcases this with rfl | rfl | rfl | rfl <;> rfl
theorem txt_pm (F : Nat) (hF : F < 4) : (strs (wordsP txt))[1 + 2 * F + 1]? = some (.string (wrd F)) := by
  have : F = 0 ∨ F = 1 ∨ F = 2 ∨ F = 3 := by omega
  rw [words_txt]; rcases this with rfl | rfl | rfl | rfl <;> rfl
/-- the gluing of which the first c numbers of the permutations have been read -/
def GP (c : Nat) : Gl where
  n := 1
  tet := fun _ => 0
  pm := fun k i => if 4 * k + i < c then (pmS k i : Nat) else 0
theorem GP_zero : rowA (GP 0) 0 = #[.int .i64 0, .int .i64 0, .int .i64 0, .int .i64 0, .int .i64 0, .int .i64 0, .int .i64 0, .int .i64 0, .int .i64 0, .int .i64 0, .int .i64 0, .int .i64 0, .int .i64 0, .int .i64 0, .int .i64 0, .int .i64 0, .int .i64 0, .int .i64 0, .int .i64 0, .int .i64 0] := by simp [rowA, GP]
theorem rowA_get (G : Gl) (t j : Nat) (hj : j < 20) : (rowA G t)[j]? = some (.int .i64 (if j % 5 = 0 then G.tet (4 * t + j / 5) else G.pm (4 * t + j / 5) (j % 5 - 1))) := by
  have hj' : j = 0 ∨ j = 1 ∨ j = 2 ∨ j = 3 ∨ j = 4 ∨ j = 5 ∨ j = 6 ∨ j = 7 ∨ j = 8 ∨ j = 9 ∨ j = 10 ∨ j = 11 ∨ j = 12 ∨ j = 13 ∨ j = 14 ∨ j = 15 ∨ j = 16 ∨ j = 17 ∨ j = 18 ∨ j = 19 := by omega
  rcases hj' with rfl | rfl | rfl | rfl | rfl | rfl | rfl | rfl | rfl | rfl | rfl | rfl | rfl | rfl | rfl | rfl | rfl | rfl | rfl | rfl <;> rfl
/-- a number read -/
theorem GP_pm {W : World} {b F i : Nat} (_hF : F < 4) (hi : i < 4) (h : RowCells W b 0 (GP (4 * F + i)) 0) : RowCells (W.setCell ⟨b, F * 5 + 1 + i, none⟩ (.int .i64 (pmS F i : Nat))) b 0 (GP (4 * F + i + 1)) 0 := by
  intro j hj
  rw [rowA_get _ _ _ hj, Nat.zero_add]
  have h1 := h j hj
  rw [rowA_get _ _ _ hj, Nat.zero_add] at h1
  by_cases e : j = F * 5 + 1 + i
  · have e1 : j / 5 = F := by omega
    have e2 : j % 5 = i + 1 := by omega
    rw [← e, World.cell?_setCell_same _ _ _ h1]
    simp [GP, e1, e2]
  · refine (World.cell?_setCell_other (a := ⟨b, F * 5 + 1 + i, none⟩) (b := ⟨b, j, none⟩) _ _ (by simp <;> omega)).trans (h1.trans ?_)
    simp only [GP]
    by_cases e0 : j % 5 = 0
    · simp [e0]
    · have e2 : (4 * (4 * 0 + j / 5) + (j % 5 - 1) < 4 * F + i) ↔ (4 * (4 * 0 + j / 5) + (j % 5 - 1) < 4 * F + i + 1) := by omega
      simp only [e0, if_false, e2]
theorem GP_tet {W : World} {b F c : Nat} (_hF : F < 4) (h : RowCells W b 0 (GP c) 0) : RowCells (W.setCell ⟨b, F * 5, none⟩ (.int .i64 0)) b 0 (GP c) 0 := by
  intro j hj
  rw [Nat.zero_add]
  have h1 := h j hj
  rw [Nat.zero_add] at h1
  by_cases e : j = F * 5
  · rw [rowA_get _ _ _ hj] at h1 ⊢
    rw [← e, World.cell?_setCell_same _ _ _ h1]
    have : j % 5 = 0 := by omega
    simp [GP, this]
  · exact (World.cell?_setCell_other (a := ⟨b, F * 5, none⟩) (b := ⟨b, j, none⟩) _ _ (by simp <;> omega)).trans h1
/-- the gluing of the text -/
def GS : Gl := GP 16
theorem GS_ok : checkB GS = true := by decide +kernel
end Go.Proofs.Ytlckpgahijlmoaa
