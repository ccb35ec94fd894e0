/- The tetrahedra around an edge: the pure walk: it is undone by the walk the other way, so it ends or closes. No condition. -/
import Derived.Test.YtlckpgahijlmoaaQ09
/- glue's sign and Sign. -/
namespace Go.Proofs.Ytlckpgahijlmoaa
open Go.RowKit

def sgJ (p : Nat → Int) (i j : Nat) (s : Int) : Int := if p i < p j then -s else s
def sgI (p : Nat → Int) (i : Nat) (s : Int) : Int := lp (sgJ p i) s i
def signF (p : Nat → Int) : Int := lp (sgI p) 1 4
theorem sgJ_pm {p : Nat → Int} {i j : Nat} {s : Int} (h : s = 1 ∨ s = -1) : sgJ p i j s = 1 ∨ sgJ p i j s = -1 := by
  unfold sgJ; split <;> omega
theorem sgI_pm {p : Nat → Int} {i m : Nat} {s : Int} (h : s = 1 ∨ s = -1) : lp (sgJ p i) s m = 1 ∨ lp (sgJ p i) s m = -1 := by
  induction m with
  | zero => exact h
  | succ m ih => exact sgJ_pm ih
theorem sg_pm {p : Nat → Int} {m : Nat} : lp (sgI p) 1 m = 1 ∨ lp (sgI p) 1 m = -1 := by
  induction m with
  | zero => exact .inl rfl
  | succ m ih => exact sgI_pm ih

set_option maxRecDepth 20000 in
set_option maxHeartbeats 1000000 in
theorem sign_walk (p : Nat → Int) (w : World) : Calls Try.prog 83 #[.agg #[Value.int .i64 (p 0), Value.int .i64 (p 1), Value.int .i64 (p 2), Value.int .i64 (p 3)]] w fun e w' => e = .returned (.int .i64 (signF p)) ∧ Below w.heap.size w w' := by
  go_enter Try.func83, Try.ntmps83
  go_wp2
  refine wp_named fun W1 hW => ?_
  have hc : ∀ i, i < 4 → W1.cell? ⟨w.heap.size, i, none⟩ = some (.int .i64 (p i)) := by
    intro i hi
    rw [hW]
    match i, hi with
    | 0, _ => simp [go_sem]
    | 1, _ => simp [go_sem]
    | 2, _ => simp [go_sem]
    | 3, _ => simp [go_sem]
  have hB : Below w.heap.size w W1 := by rw [hW]; (repeat' (first | assumption | exact Below.refl _ _ | refine below_then ?_ (by assumption) | refine below_al ?_ _ | refine below_dr ?_ | refine below_sc ?_ (by simp <;> omega) _))
  have hs : w.heap.size < W1.heap.size := by rw [hW]; simp
  clear hW
  generalize hN : w.heap.size = N at *
  have H := Lib.hid (And.intro hc hB); clear hc hB
  go_loopw [6, 3] (fun i s wr => ∃ k : Nat, k ≤ 4 ∧ i = .int .i64 k ∧ s = .int .i64 (lp (sgI p) 1 k) ∧ Below W1.heap.size W1 wr) (fun i _ _ => 4 - (intOf i).toNat)
  case atStart => exact ⟨0, by omega, rfl, rfl, Below.refl _ _⟩
  case round =>
    obtain ⟨k, hk, rfl, rfl, hb⟩ := hrel
    have HK := Lib.hid hb; clear hb
    rcases Nat.lt_or_ge k 4 with hlk | hge
    · have hpm := sg_pm (p := p) (m := k)
      have k4 : (k : Int) < 4 := by omega
      have HE := Lib.hid (show lp (sgI p) 1 (k + 1) = lp (sgJ p k) (lp (sgI p) 1 k) k from rfl)
      generalize lp (sgI p) 1 k = s0 at *
      go_wp2
      go_loopw [10, 3] (fun i s wr => ∃ j : Nat, j ≤ k ∧ i = .int .i64 j ∧ s = .int .i64 (lp (sgJ p k) s0 j) ∧ Below W1.heap.size W1 wr) (fun i _ _ => 4 - (intOf i).toNat)
      case atStart => exact ⟨0, by omega, rfl, rfl, HK.out⟩
      case round =>
        obtain ⟨j, hj, rfl, rfl, hb⟩ := hrel
        have hcj := (hb.cell (p := ⟨N, j, none⟩) hs).trans (H.out.1 j (by omega))
        have hck := (hb.cell (p := ⟨N, k, none⟩) hs).trans (H.out.1 k (by omega))
        have HK2 := Lib.hid hb; clear hb
        have hq := sgI_pm (p := p) (i := k) (m := j) hpm
        have HS := Lib.hid (show lp (sgJ p k) s0 (j + 1) = sgJ p k j (lp (sgJ p k) s0 j) from rfl)
        generalize hs1 : lp (sgJ p k) s0 j = s1 at *
        have HS1 := Lib.hid hs1; clear hs1
        rcases Nat.lt_or_ge j k with hlj | hgj
        · have j4 : (j : Int) < 4 := by omega
          have j0 : 0 ≤ (j : Int) := by omega
          have k0 : 0 ≤ (k : Int) := by omega
          rcases Int.lt_or_le (p k) (p j) with hlt | hle
          · have HX := Lib.hid (show sgJ p k j s1 = -s1 by simp [sgJ, hlt])
            generalize p j = pj at *
            generalize p k = pk at *
            rcases hq with rfl | rfl
            · go_wp2
              go_still (by kernel_rfl)
              go_wp2
              go_roundw
              case rel => exact ⟨j + 1, by omega, rfl, by rw [HS.out, HX.out], below_dr HK2.out⟩
              case measure => simp [intOf]; omega
            · go_wp2
              go_still (by kernel_rfl)
              go_wp2
              go_roundw
              case rel => exact ⟨j + 1, by omega, rfl, by rw [HS.out, HX.out]; rfl, below_dr HK2.out⟩
              case measure => simp [intOf]; omega
          · have HX := Lib.hid (show sgJ p k j s1 = s1 by simp [sgJ]; omega)
            generalize p j = pj at *
            generalize p k = pk at *
            go_wp2
            go_still (by kernel_rfl)
            go_wp2
            go_roundw
            case rel => exact ⟨j + 1, by omega, rfl, by rw [HS.out, HX.out], below_dr HK2.out⟩
            case measure => simp [intOf]; omega
        · obtain rfl : j = k := by omega
          go_wp2
          go_roundw
          case rel => exact ⟨j + 1, by omega, rfl, by rw [HE.out, HS1.out], HK2.out⟩
          case measure => simp [intOf]; omega
    · obtain rfl : k = 4 := by omega
      go_wp2
      go_ret
      exact ⟨rfl, by have := H.out.2; have hb := HK.out; exact hN ▸ this.trans (hb.mono (by omega))⟩

def SignI (p : Nat → Int) : Int := if validF p then signF p else 0
set_option maxRecDepth 20000 in
set_option maxHeartbeats 1000000 in
theorem Sign_walk (p : Nat → Int) (w : World) : Calls Try.prog 43 #[.agg #[Value.int .i64 (p 0), Value.int .i64 (p 1), Value.int .i64 (p 2), Value.int .i64 (p 3)]] w fun e w' => e = .returned (.int .i64 (SignI p)) ∧ Below w.heap.size w w' := by
  go_enter Try.func43, Try.ntmps43
  by_cases hv : validF p = true
  · have hS : SignI p = signF p := if_pos hv
    rw [hS]
    go_wp2_with (first | (go_at_call 82; refine (valid_walk p _).mono ?_; rintro e w' ⟨rfl, hb⟩; obtain ⟨hc, hf⟩ := bcell hb; have z0 : w.heap.size < w'.heap.size := (by have hz := hb.size; (try simp at hz); omega)) | (go_at_call 83; refine (sign_walk p _).mono ?_; rintro e w' ⟨rfl, hb⟩; obtain ⟨hc, hf⟩ := bcell hb; have z0 : w.heap.size < w'.heap.size := (by have hz := hb.size; (try simp at hz); omega)))
    go_ret
    exact ⟨rfl, by (repeat' (first | assumption | exact Below.refl _ _ | refine below_then ?_ (by assumption) | refine below_al ?_ _ | refine below_dr ?_ | refine below_sc ?_ (by simp <;> omega) _))⟩
  · have hv : validF p = false := by simpa using hv
    have hS : SignI p = 0 := by simp [SignI, hv]
    rw [hS]
    go_wp2_with (go_at_call 82; refine (valid_walk p _).mono ?_; rintro e w' ⟨rfl, hb⟩; obtain ⟨hc, hf⟩ := bcell hb; have z0 : w.heap.size < w'.heap.size := (by have hz := hb.size; (try simp at hz); omega))
    go_ret
    exact ⟨rfl, by (repeat' (first | assumption | exact Below.refl _ _ | refine below_then ?_ (by assumption) | refine below_al ?_ _ | refine below_dr ?_ | refine below_sc ?_ (by simp <;> omega) _))⟩
end Go.Proofs.Ytlckpgahijlmoaa
namespace Go.Proofs.Ytlckpgahijlmoaa
open Go.RowKit

abbrev RS := Nat × Nat × Nat × Nat × Nat
def rp (s : RS) (i : Nat) : Nat := if i = 0 then s.2.1 else if i = 1 then s.2.2.1 else if i = 2 then s.2.2.2.1 else s.2.2.2.2
structure Rok (n : Nat) (s : RS) : Prop where
  t : s.1 < n
  l : s.2.1 < 4 ∧ s.2.2.1 < 4 ∧ s.2.2.2.1 < 4 ∧ s.2.2.2.2 < 4
  d : s.2.1 ≠ s.2.2.1 ∧ s.2.1 ≠ s.2.2.2.1 ∧ s.2.1 ≠ s.2.2.2.2 ∧ s.2.2.1 ≠ s.2.2.2.1 ∧ s.2.2.1 ≠ s.2.2.2.2 ∧ s.2.2.2.1 ≠ s.2.2.2.2
def stp (G : Gl) (l : Nat) (s : RS) : Option RS :=
  if G.tet (4 * s.1 + rp s l) < 0 then none
  else some (G.T (4 * s.1 + rp s l), G.P (4 * s.1 + rp s l) s.2.1, G.P (4 * s.1 + rp s l) s.2.2.1, G.P (4 * s.1 + rp s l) s.2.2.2.2, G.P (4 * s.1 + rp s l) s.2.2.2.1)

theorem rp_lt {n : Nat} {s : RS} (h : Rok n s) (l : Nat) : rp s l < 4 := by
  obtain ⟨a, b, c, d⟩ := h.l
  unfold rp; split
  · exact a
  · split
    · exact b
    · split <;> assumption

/-- behind a face lies the face that leads back -/
theorem ok_back {G : Gl} (h : checkB G = true) {k : Nat} (hk : k < 4 * G.n) (ht : ¬ G.tet k < 0) :
    4 * G.T k + G.P k (k % 4) < 4 * G.n ∧ ¬ G.tet (4 * G.T k + G.P k (k % 4)) < 0 ∧ G.T (4 * G.T k + G.P k (k % 4)) = k / 4 ∧ ∀ i, i < 4 → G.P (4 * G.T k + G.P k (k % 4)) (G.P k i) = i := by
  obtain ⟨h1, h2, hp⟩ := ok_face h hk ht
  have hinj := ok_inj h hk ht
  have p0 := hp 0 (by omega)
  have p1 := hp 1 (by omega)
  have p2 := hp 2 (by omega)
  have p3 := hp 3 (by omega)
  have pm := hp (k % 4) (by omega)
  simp only [checkB, Bool.and_eq_true, List.all_eq_true, List.mem_range] at h
  have h3 := h.2 k hk
  simp only [okB, Bool.or_eq_true, Bool.and_eq_true, noneB, beq_iff_eq] at h3
  rcases h3 with h3 | h3
  · omega
  · have hb : G.back k = 4 * G.T k + G.P k (k % 4) := by simp [Gl.back, Gl.T, Gl.P]
    have hm := h3.2
    simp only [matchB, Bool.and_eq_true, beq_iff_eq, hb] at hm
    obtain ⟨m1, m2⟩ := hm
    have m3 := all4_iff.1 m2
    refine ⟨by omega, by omega, by simp [Gl.T] at *; omega, fun i hi => ?_⟩
    have hq := hp i hi
    have e := m3 (G.P k i) hq.2
    simp only [beq_iff_eq] at e
    show (G.pm _ (G.P k i)).toNat = i
    rw [e]
    have g : ∀ j, j < 4 → (G.p k j).toNat = G.P k j := fun j hj => by rw [show G.p k j = G.pm k j from rfl, (hp j hj).1]; rfl
    simp only [invF, invK, upd, g 0 (by omega), g 1 (by omega), g 2 (by omega), g 3 (by omega)]
    have i01 := hinj 0 1 (by omega) (by omega) (by omega)
    have i02 := hinj 0 2 (by omega) (by omega) (by omega)
    have i03 := hinj 0 3 (by omega) (by omega) (by omega)
    have i12 := hinj 1 2 (by omega) (by omega) (by omega)
    have i13 := hinj 1 3 (by omega) (by omega) (by omega)
    have i23 := hinj 2 3 (by omega) (by omega) (by omega)
    have : i = 0 ∨ i = 1 ∨ i = 2 ∨ i = 3 := by omega
    rcases this with rfl | rfl | rfl | rfl <;> simp [i01, i02, i03, i12, i13, i23]

theorem stp_ok {G : Gl} (h : checkB G = true) {l : Nat} {s s' : RS} (hs : Rok G.n s) (e : stp G l s = some s') : Rok G.n s' := by
  have hl := rp_lt hs l
  have ht := hs.t
  unfold stp at e
  split at e
  · cases e
  · next hn =>
    have hk : 4 * s.1 + rp s l < 4 * G.n := by omega
    obtain ⟨h1, h2, hp⟩ := ok_face h hk hn
    have hinj := ok_inj h hk hn
    obtain ⟨a, b, c, d⟩ := hs.l
    obtain ⟨d1, d2, d3, d4, d5, d6⟩ := hs.d
    simp only [Option.some.injEq] at e
    subst e
    exact ⟨h2, ⟨(hp _ a).2, (hp _ b).2, (hp _ d).2, (hp _ c).2⟩, ⟨hinj _ _ a b d1, hinj _ _ a d d3, hinj _ _ a c d2, hinj _ _ b d d5, hinj _ _ b c d4, hinj _ _ d c (Ne.symm d6)⟩⟩

/-- a step with the label 2 is undone by one with the label 3, and the other way round -/
theorem stp_back {G : Gl} (h : checkB G = true) {l m : Nat} (hlm : (l = 2 ∧ m = 3) ∨ (l = 3 ∧ m = 2)) {s s' : RS} (hs : Rok G.n s) (e : stp G l s = some s') : stp G m s' = some s := by
  have hl := rp_lt hs l
  have ht := hs.t
  unfold stp at e
  split at e
  · cases e
  · next hn =>
    have hk : 4 * s.1 + rp s l < 4 * G.n := by omega
    have hmod : (4 * s.1 + rp s l) % 4 = rp s l := by omega
    have hdiv : (4 * s.1 + rp s l) / 4 = s.1 := by omega
    obtain ⟨b1, b2, b3, b4⟩ := ok_back h hk hn
    rw [hmod] at b1 b2 b3 b4
    rw [hdiv] at b3
    obtain ⟨a, b, c, d⟩ := hs.l
    simp only [Option.some.injEq] at e
    have hr : rp s' m = G.P (4 * s.1 + rp s l) (rp s l) := by
      subst e
      rcases hlm with ⟨rfl, rfl⟩ | ⟨rfl, rfl⟩ <;> simp [rp]
    have h1 : s'.1 = G.T (4 * s.1 + rp s l) := by rw [← e]
    have e1 : s'.2.1 = G.P (4 * s.1 + rp s l) s.2.1 := by rw [← e]
    have e2 : s'.2.2.1 = G.P (4 * s.1 + rp s l) s.2.2.1 := by rw [← e]
    have e3 : s'.2.2.2.1 = G.P (4 * s.1 + rp s l) s.2.2.2.2 := by rw [← e]
    have e4 : s'.2.2.2.2 = G.P (4 * s.1 + rp s l) s.2.2.2.1 := by rw [← e]
    unfold stp
    rw [hr, h1, if_neg b2, e1, e2, e3, e4, b3, b4 _ a, b4 _ b, b4 _ c, b4 _ d]

/-- after i steps -/
def itr (G : Gl) (l : Nat) (s : RS) : Nat → Option RS
  | 0 => some s
  | i + 1 => (itr G l s i).bind (stp G l)
theorem itr_add (G : Gl) (l : Nat) (s : RS) (i j : Nat) : itr G l s (i + j) = (itr G l s i).bind fun u => itr G l u j := by
  induction j with
  | zero => cases h : itr G l s i <;> simp [itr]
  | succ j ih =>
    rw [show i + (j + 1) = (i + j) + 1 by omega, itr, ih]
    cases h : itr G l s i <;> simp [itr]
theorem itr_none {G : Gl} {l : Nat} {s : RS} {i j : Nat} (h : itr G l s i = none) (hj : i ≤ j) : itr G l s j = none := by
  obtain ⟨k, rfl⟩ : ∃ k, j = i + k := ⟨j - i, by omega⟩
  rw [itr_add, h]; rfl
theorem itr_ok {G : Gl} (h : checkB G = true) {l : Nat} {s : RS} (hs : Rok G.n s) : ∀ {i : Nat} {u : RS}, itr G l s i = some u → Rok G.n u := by
  intro i
  induction i with
  | zero => intro u e; simp [itr] at e; subst e; exact hs
  | succ i ih =>
    intro u e
    simp only [itr, Option.bind_eq_some_iff] at e
    obtain ⟨x, e1, e2⟩ := e
    exact stp_ok h (ih e1) e2
/-- the way back -/
theorem itr_back {G : Gl} (h : checkB G = true) {l m : Nat} (hlm : (l = 2 ∧ m = 3) ∨ (l = 3 ∧ m = 2)) {s : RS} (hs : Rok G.n s) : ∀ {i : Nat} {u : RS}, itr G l s i = some u → itr G m u i = some s := by
  intro i
  induction i with
  | zero => intro u e; simp [itr] at e; subst e; rfl
  | succ i ih =>
    intro u e
    simp only [itr, Option.bind_eq_some_iff] at e
    obtain ⟨x, e1, e2⟩ := e
    have hb := stp_back h hlm (itr_ok h hs e1) e2
    rw [show i + 1 = 1 + i by omega, itr_add]
    simp [itr, hb, ih e1]

/-- more pigeons than holes -/
theorem pigeon (f : Nat → Nat) : ∀ n, (∀ i, i ≤ n → f i < n) → ∃ i j, i < j ∧ j ≤ n ∧ f i = f j := by
  intro n
  induction n generalizing f with
  | zero => intro h; have := h 0 (by omega); omega
  | succ n ih =>
    intro h
    by_cases hc : ∃ i, i ≤ n ∧ f i = f (n + 1)
    · obtain ⟨i, hi, e⟩ := hc
      exact ⟨i, n + 1, by omega, by omega, e⟩
    · have hlast := h (n + 1) (by omega)
      obtain ⟨i, j, hij, hj, e⟩ := ih (fun i => if f i = n then f (n + 1) else f i) (fun i hi => by
        have h1 := h i (by omega)
        have h2 : f i ≠ f (n + 1) := fun e => hc ⟨i, hi, e⟩
        show (if f i = n then f (n + 1) else f i) < n
        split
        · omega
        · omega)
      refine ⟨i, j, hij, by omega, ?_⟩
      have hi2 : f i ≠ f (n + 1) := fun e => hc ⟨i, by omega, e⟩
      have hj2 : f j ≠ f (n + 1) := fun e => hc ⟨j, hj, e⟩
      split at e <;> split at e <;> omega
def rcode (s : RS) : Nat := (((s.1 * 4 + s.2.1) * 4 + s.2.2.1) * 4 + s.2.2.2.1) * 4 + s.2.2.2.2
theorem rcode_lt {n : Nat} {s : RS} (h : Rok n s) : rcode s < 256 * n := by
  obtain ⟨a, b, c, d⟩ := h.l
  have := h.t
  unfold rcode; omega
theorem rcode_inj {n : Nat} {s u : RS} (h : Rok n s) (k : Rok n u) (e : rcode s = rcode u) : s = u := by
  obtain ⟨a, b, c, d⟩ := h.l
  obtain ⟨a', b', c', d'⟩ := k.l
  unfold rcode at e
  refine Prod.ext (by omega) (Prod.ext ?_ (Prod.ext ?_ (Prod.ext ?_ ?_))) <;> omega

/-- it ends, or comes back to where it began -/
theorem itr_ends {G : Gl} (h : checkB G = true) {l m : Nat} (hlm : (l = 2 ∧ m = 3) ∨ (l = 3 ∧ m = 2)) {s : RS} (hs : Rok G.n s) : ∃ k, 0 < k ∧ k ≤ 256 * G.n ∧ (itr G l s k = none ∨ itr G l s k = some s) := by
  have hpos : 0 < G.n := by have := hs.t; omega
  by_cases hc : itr G l s (256 * G.n) = none
  · exact ⟨256 * G.n, by omega, Nat.le_refl _, .inl hc⟩
  · have hall : ∀ i, i ≤ 256 * G.n → ∃ u, itr G l s i = some u := fun i hi => by
      cases e : itr G l s i with
      | none => exact absurd (itr_none e hi) hc
      | some u => exact ⟨u, rfl⟩
    obtain ⟨i, j, hij, hj, e⟩ := pigeon (fun i => (itr G l s i).elim 0 rcode) (256 * G.n) (fun i hi => by
      obtain ⟨u, hu⟩ := hall i hi
      simp only [hu, Option.elim]
      exact rcode_lt (itr_ok h hs hu))
    obtain ⟨u, hu⟩ := hall i (by omega)
    obtain ⟨v, hv⟩ := hall j hj
    simp only [hu, hv, Option.elim] at e
    have huv := rcode_inj (itr_ok h hs hu) (itr_ok h hs hv) e
    subst huv
    have b1 := itr_back h hlm hs hu
    have hj2 : j = (j - i) + i := by omega
    have b2 := itr_back h hlm hs hv
    obtain ⟨x, hx⟩ := hall (j - i) (by omega)
    have hxv : itr G l x i = some u := by
      have := itr_add G l s (j - i) i
      rw [← hj2, hv, hx] at this
      simpa using this.symm
    have b3 := itr_back h hlm (itr_ok h hs hx) hxv
    rw [b1] at b3
    simp only [Option.some.injEq] at b3
    exact ⟨j - i, by omega, by omega, .inr (by rw [hx, b3])⟩

theorem itr_mul {G : Gl} {l : Nat} {s : RS} {k : Nat} (hk : itr G l s k = some s) (q : Nat) : itr G l s (q * k) = some s := by
  induction q with
  | zero => simp [itr]
  | succ q ih => rw [Nat.succ_mul, itr_add, ih]; exact hk
/-- where the one way ends, the other does -/
theorem itr_other {G : Gl} (h : checkB G = true) {l m : Nat} (hlm : (l = 2 ∧ m = 3) ∨ (l = 3 ∧ m = 2)) {s : RS} (hs : Rok G.n s) {k : Nat} (hk : itr G l s k = none) : ∃ j, j ≤ 256 * G.n ∧ itr G m s j = none := by
  have hlm' : (m = 2 ∧ l = 3) ∨ (m = 3 ∧ l = 2) := by omega
  obtain ⟨j, hj, hj2, e | e⟩ := itr_ends h hlm' hs
  · exact ⟨j, hj2, e⟩
  · have b := itr_back h hlm' hs e
    have hq := itr_mul b k
    have : itr G l s (k * j) = none := itr_none hk (Nat.le_mul_of_pos_right k hj)
    rw [this] at hq
    cases hq
end Go.Proofs.Ytlckpgahijlmoaa
