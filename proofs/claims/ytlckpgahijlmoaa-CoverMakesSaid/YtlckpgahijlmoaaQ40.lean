/- cover's Regular: it returns, and turns nothing. -/
import Derived.Test.YtlckpgahijlmoaaQ37
import Derived.Test.YtlckpgahijlmoaaQ39
import Derived.Test.YtlckpgahijlmoaaQ25
/- Coverings: inverses of permutations, signs, the covering of two sheets. Plain laws. -/
namespace Go.Proofs.Ytlckpgahijlmoaa

theorem surj_of_inj : ∀ (n : Nat) (f : Nat → Nat), (∀ i, i < n → f i < n) → (∀ i j, i < n → j < n → f i = f j → i = j) → ∀ j, j < n → ∃ i, i < n ∧ f i = j
  | 0, _, _, _, j, hj => by omega
  | n + 1, f, hr, hi, j, hj => by
    have hlt : ∀ i, i < n → f i ≠ f n := fun i h e => by have := hi i n (by omega) (by omega) e; omega
    have ih := surj_of_inj n (fun i => if f i = n then f n else f i) (fun i h => by
      have h1 := hr i (by omega)
      have h2 := hr n (by omega)
      have h3 := hlt i h
      by_cases e : f i = n
      · simp only [e, if_true]; omega
      · simp only [e, if_false]; omega) (fun a b ha hb e => by
      have h1 := hlt a ha
      have h2 := hlt b hb
      by_cases ea : f a = n <;> by_cases eb : f b = n
      · exact hi a b (by omega) (by omega) (by omega)
      · simp only [ea, eb, if_true, if_false] at e; omega
      · simp only [ea, eb, if_true, if_false] at e; omega
      · simp only [ea, eb, if_false] at e; exact hi a b (by omega) (by omega) e)
    by_cases e1 : j = f n
    · exact ⟨n, by omega, e1.symm⟩
    · by_cases e2 : j = n
      · have hv : f n < n := by have := hr n (by omega); omega
        obtain ⟨i, h1, h2⟩ := ih (f n) hv
        refine ⟨i, by omega, ?_⟩
        by_cases e : f i = n
        · omega
        · simp only [e, if_false] at h2; exact absurd h2 (hlt i h1)
      · obtain ⟨i, h1, h2⟩ := ih j (by omega)
        refine ⟨i, by omega, ?_⟩
        by_cases e : f i = n
        · simp only [e, if_true] at h2; omega
        · simp only [e, if_false] at h2; exact h2
theorem permB_inj {l : Nat} {f : Nat → Int} {n : Int} (h : permB l f n = true) : ∀ i j, i < l → j < l → f i = f j → i = j := by
  simp only [permB, Bool.and_eq_true, permP, List.all_eq_true, List.mem_range, Bool.not_eq_true', List.any_eq_false, beq_iff_eq] at h
  intro i j hi hj e
  rcases Nat.lt_trichotomy i j with q | q | q
  · exact absurd e ((h.1 j hj).2 i q)
  · exact q
  · exact absurd e.symm ((h.1 i hi).2 j q)
theorem invP_at {f : Nat → Int} {l : Nat} (hi : ∀ i j, i < l → j < l → f i = f j → i = j) {i x : Nat} (h : i < l) (hx : f i = x) : invP f l x = i := by
  have key : ∀ k, k ≤ l → i < k → invP f k x = i := fun k => by
    induction k with
    | zero => intro _ h; omega
    | succ k ih =>
      intro hk h1
      show (if (x : Int) = f k then (k : Int) else invP f k x) = i
      by_cases e : (x : Int) = f k
      · rw [if_pos e, hi i k h (by omega) (hx.trans e)]
      · rw [if_neg e]
        exact ih (by omega) (by
          rcases Nat.lt_or_ge i k with q | q
          · exact q
          · have : i = k := by omega
            subst this; exact absurd hx.symm e)
  exact key l (Nat.le_refl _) h
theorem sh_of {G : Gl} {sh : Nat} {len : Nat → Nat} {f : Nat → Nat → Int} (h : ∀ k, k < nF G → permB (len k) (f k) sh = true) : Sh G sh f (fun k => invP (f k) sh) := by
  have hl : ∀ k, k < nF G → len k = sh := fun k hk => by have := (permB_range (h k hk)).1; omega
  have hr : ∀ k i, k < nF G → i < sh → ∃ j : Nat, f k i = j ∧ j < sh := fun k i hk hi => by
    have := (permB_range (h k hk)).2 i (by rw [hl k hk]; exact hi)
    exact ⟨(f k i).toNat, by omega, by omega⟩
  have hin : ∀ k, k < nF G → ∀ i j, i < sh → j < sh → f k i = f k j → i = j := fun k hk i j hi hj e => permB_inj (h k hk) i j (by rw [hl k hk]; exact hi) (by rw [hl k hk]; exact hj) e
  have hs : ∀ k i, k < nF G → i < sh → ∃ j, j < sh ∧ f k j = i := fun k i hk hi => by
    obtain ⟨j, h1, h2⟩ := surj_of_inj sh (fun i => (f k i).toNat) (fun i hi => by obtain ⟨j, h1, h2⟩ := hr k i hk hi; show (f k i).toNat < sh; rw [h1]; simpa using h2)
      (fun a b ha hb e => hin k hk a b ha hb (by
        obtain ⟨j, h1, -⟩ := hr k a hk ha
        obtain ⟨m, h2, -⟩ := hr k b hk hb
        simp only [h1, h2, Int.toNat_natCast] at e
        rw [h1, h2, e])) i hi
    obtain ⟨m, h3, -⟩ := hr k j hk h1
    refine ⟨j, h1, ?_⟩
    simp only [h3, Int.toNat_natCast] at h2
    rw [h3, h2]
  refine ⟨hr, fun k i hk hi => ?_, fun k i j hk hi e => invP_at (hin k hk) hi e, fun k i j hk hi e => ?_⟩
  · obtain ⟨j, h1, h2⟩ := hs k i hk hi
    exact ⟨j, invP_at (hin k hk) h1 h2, h1⟩
  · obtain ⟨m, h1, h2⟩ := hs k i hk hi
    have := invP_at (hin k hk) h1 h2
    rw [this] at e
    have : m = j := by omega
    subst this; exact h2
theorem CovOK.sh {G : Gl} {sh : Int} {np : Nat} {len : Nat → Nat} {fp : Nat → Nat → Int} (h : CovOK G sh np len fp) : Sh G sh.toNat fp (fun k => invP (fp k) sh.toNat) :=
  sh_of (len := len) fun k hk => by
    have := h.perms k (by rw [h.num]; exact hk)
    have h1 := h.lo
    rw [show ((sh.toNat : Nat) : Int) = sh by omega]; exact this
theorem CovOK.valid {G : Gl} {sh : Int} {np : Nat} {len : Nat → Nat} {fp : Nat → Nat → Int} (hok : checkB G = true) (h : CovOK G sh np len fp) : checkB (covG G fp (fun k => invP (fp k) sh.toNat) sh.toNat) = true :=
  cov_valid hok h.sh h.small.2

theorem shA_step {G : Gl} {f g : Nat → Nat → Int} {s u : RS} {m k i : Nat} (h1 : itr G 2 s m = some s) (hk : k < m) (hu : itr G 2 s k = some u) : shA G f g (pth G 2 s m) i (k + 1) = (crF G f g u.1 (rp u 2) (shA G f g (pth G 2 s m) i k)).toNat := by
  have : (pth G 2 s m)[k]? = some u := (pth_get (ring_all h1) k hk).trans hu
  simp only [shA, this]
/-- the sign of four numbers -/
def sel (a b c d i : Nat) : Nat := if i = 0 then a else if i = 1 then b else if i = 2 then c else d
def dist4 (a b c d : Nat) : Prop := a ≠ b ∧ a ≠ c ∧ a ≠ d ∧ b ≠ c ∧ b ≠ d ∧ c ≠ d
instance (a b c d : Nat) : Decidable (dist4 a b c d) := by unfold dist4; infer_instance
section
variable {G : Gl} (hok : checkB G = true)
include hok
end
section
variable {G : Gl} (hok : checkB G = true)
include hok
end
/-- two gluings with the same faces -/
theorem GlAt.congr {B : Nat} {W : World} {v : Value} {G H : Gl} (h : GlAt B W v G) (hn : G.n = H.n) (ht : ∀ k, k < 4 * G.n → G.tet k = H.tet k) (hp : ∀ k, k < 4 * G.n → ∀ i, i < 4 → G.pm k i = H.pm k i) : GlAt B W v H := by
  obtain ⟨a, b, off, cap, e, hB, hc⟩ := h
  rw [hn] at e hB hc ht hp
  exact ⟨a, b, off, cap, e, hB, fun k hk => ⟨by rw [← ht k hk]; exact (hc k hk).1, fun i hi => by rw [← hp k hk i hi]; exact (hc k hk).2 i hi⟩⟩
end Go.Proofs.Ytlckpgahijlmoaa
/- The rings of edges: the condition of a ring depends on the class of the edge alone. Plain laws. -/
namespace Go.Proofs.Ytlckpgahijlmoaa

def sw01 (s : RS) : RS := (s.1, s.2.2.1, s.2.1, s.2.2.2.1, s.2.2.2.2)
def sw23 (s : RS) : RS := (s.1, s.2.1, s.2.2.1, s.2.2.2.2, s.2.2.2.1)
theorem sw01_sw (s : RS) : sw01 (sw01 s) = s := rfl
theorem sw23_sw (s : RS) : sw23 (sw23 s) = s := rfl
theorem sw23_ok {n : Nat} {s : RS} (h : Rok n s) : Rok n (sw23 s) := by
  obtain ⟨l1, l2, l3, l4⟩ := h.l
  obtain ⟨d1, d2, d3, d4, d5, d6⟩ := h.d
  exact ⟨h.t, ⟨l1, l2, l4, l3⟩, ⟨d1, d3, d2, d5, d4, d6.symm⟩⟩
theorem itr_sw01 (G : Gl) (s : RS) : ∀ k, itr G 2 (sw01 s) k = (itr G 2 s k).map sw01
  | 0 => rfl
  | k + 1 => by
    rw [itr, itr, itr_sw01 G s k]
    cases itr G 2 s k with
    | none => rfl
    | some u =>
      show stp G 2 (sw01 u) = (stp G 2 u).map sw01
      unfold stp
      show (if G.tet (4 * u.1 + u.2.2.2.1) < 0 then none else _) = Option.map sw01 (if G.tet (4 * u.1 + u.2.2.2.1) < 0 then none else _)
      split <;> rfl
theorem itr_sw23 (G : Gl) (s : RS) : ∀ k, itr G 2 (sw23 s) k = (itr G 3 s k).map sw23
  | 0 => rfl
  | k + 1 => by
    rw [itr, itr, itr_sw23 G s k]
    cases itr G 3 s k with
    | none => rfl
    | some u =>
      show stp G 2 (sw23 u) = (stp G 3 u).map sw23
      unfold stp
      show (if G.tet (4 * u.1 + u.2.2.2.2) < 0 then none else _) = Option.map sw23 (if G.tet (4 * u.1 + u.2.2.2.2) < 0 then none else _)
      split <;> rfl
theorem map_sw01 {o : Option RS} {s : RS} : o.map sw01 = some (sw01 s) ↔ o = some s := by
  cases o with
  | none => simp
  | some u =>
    simp only [Option.map_some, Option.some.injEq]
    exact ⟨fun h => by rw [← sw01_sw u, h, sw01_sw], fun h => by rw [h]⟩
theorem map_sw23 {o : Option RS} {s : RS} : o.map sw23 = some (sw23 s) ↔ o = some s := by
  cases o with
  | none => simp
  | some u =>
    simp only [Option.map_some, Option.some.injEq]
    exact ⟨fun h => by rw [← sw23_sw u, h, sw23_sw], fun h => by rw [h]⟩

section
variable {G : Gl} {f g : Nat → Nat → Int} {sh : Nat}
/-- the sheet behind the face ahead -/
def Xs (G : Gl) (f g : Nat → Nat → Int) (u : RS) (x : Nat) : Nat := (crF G f g u.1 (rp u 2) x).toNat
/-- the sheet after k steps -/
def trn (G : Gl) (f g : Nat → Nat → Int) (s : RS) : Nat → Nat → Nat
  | 0, i => i
  | k + 1, i => match itr G 2 s k with
    | some u => Xs G f g u (trn G f g s k i)
    | none => trn G f g s k i
theorem trn_some {s u : RS} {k i : Nat} (h : itr G 2 s k = some u) : trn G f g s (k + 1) i = Xs G f g u (trn G f g s k i) := by
  simp only [trn, h]
theorem shA_trn {s : RS} {m : Nat} (h : itr G 2 s m = some s) (i : Nat) : ∀ k, k ≤ m → shA G f g (pth G 2 s m) i k = trn G f g s k i
  | 0, _ => rfl
  | k + 1, hk => by
    obtain ⟨u, hu⟩ := Option.ne_none_iff_exists'.1 (ring_all h k (by omega))
    rw [shA_step h (by omega) hu, trn_some hu, shA_trn h i k (by omega)]; rfl
theorem ringOK_iff {s : RS} : ringOK G f g sh s ↔ ∀ m, 0 < m → itr G 2 s m = some s → (∀ i, 0 < i → i < m → itr G 2 s i ≠ some s) → ∀ i, i < sh → trn G f g s m i = i := by
  constructor
  · intro h m h0 h1 h2 i hi
    rw [← shA_trn h1 i m (Nat.le_refl _)]
    exact h m h0 h1 h2 i hi
  · intro h m h0 h1 h2 i hi
    rw [shA_trn h1 i m (Nat.le_refl _)]
    exact h m h0 h1 h2 i hi
theorem trn_sw01 (s : RS) (i : Nat) : ∀ k, trn G f g (sw01 s) k i = trn G f g s k i
  | 0 => rfl
  | k + 1 => by
    have ih := trn_sw01 s i k
    cases h : itr G 2 s k with
    | none =>
      have h2 : itr G 2 (sw01 s) k = none := by rw [itr_sw01, h]; rfl
      simp only [trn, h, h2, ih]
    | some u =>
      have h2 : itr G 2 (sw01 s) k = some (sw01 u) := by rw [itr_sw01, h]; rfl
      rw [trn_some h, trn_some h2, ih]; rfl
theorem RG_sw01 {s : RS} (h : ringOK G f g sh s) : ringOK G f g sh (sw01 s) := by
  rw [ringOK_iff] at h ⊢
  intro m h0 h1 h2 i hi
  rw [trn_sw01]
  exact h m h0 (map_sw01.1 (by rw [← itr_sw01]; exact h1)) (fun j j0 jm e => h2 j j0 jm (by rw [itr_sw01]; exact map_sw01.2 e)) i hi
variable (hok : checkB G = true) (hS : Sh G sh f g)
include hok hS
theorem Xs_lt {u : RS} (hu : Rok G.n u) (ht : ¬ G.tet (4 * u.1 + rp u 2) < 0) {x : Nat} (hx : x < sh) : Xs G f g u x < sh := by
  have hr := rp_lt hu 2
  have := hu.t
  obtain ⟨s', h1, h2, -⟩ := cr_back hok hS (show 4 * u.1 + rp u 2 < 4 * G.n by omega) ht hx
  rw [show (4 * u.1 + rp u 2) / 4 = u.1 by omega, show (4 * u.1 + rp u 2) % 4 = rp u 2 by omega] at h1
  unfold Xs; rw [h1]; simpa using h2
/-- the way back, with the other label -/
theorem Xs_back {u z : RS} (hu : Rok G.n u) (hz : stp G 2 u = some z) {x : Nat} (hx : x < sh) : Xs G f g u x < sh ∧ Xs G f g (sw23 z) (Xs G f g u x) = x := by
  have hr := rp_lt hu 2
  have ht := hu.t
  have hn : ¬ G.tet (4 * u.1 + rp u 2) < 0 := fun h => by unfold stp at hz; rw [if_pos h] at hz; cases hz
  refine ⟨Xs_lt hok hS hu hn hx, ?_⟩
  obtain ⟨s', h1, h2, h3⟩ := cr_back hok hS (show 4 * u.1 + rp u 2 < 4 * G.n by omega) hn hx
  rw [show (4 * u.1 + rp u 2) / 4 = u.1 by omega, show (4 * u.1 + rp u 2) % 4 = rp u 2 by omega] at h1
  have e1 : Xs G f g u x = s' := by unfold Xs; rw [h1]; simp
  obtain ⟨f1, f2, f3, f4, f5, f6, f7⟩ := tb_facts hok (show 4 * u.1 + rp u 2 < 4 * G.n by omega) hn
  unfold stp at hz
  rw [if_neg hn] at hz
  injection hz with hz
  have e2 : z.1 = tb G (4 * u.1 + rp u 2) / 4 := by rw [← hz, f5]
  have e3 : rp (sw23 z) 2 = tb G (4 * u.1 + rp u 2) % 4 := by
    rw [f6, ← hz, show (4 * u.1 + rp u 2) % 4 = rp u 2 by omega]; rfl
  show (crF G f g z.1 (rp (sw23 z) 2) (Xs G f g u x)).toNat = x
  rw [e2, e3, e1, h3]; simp
theorem Xs_surj {u z : RS} (hu : Rok G.n u) (hz : stp G 2 u = some z) {y : Nat} (hy : y < sh) : ∃ x, x < sh ∧ Xs G f g u x = y :=
  surj_of_inj sh (Xs G f g u) (fun i hi => (Xs_back hok hS hu hz hi).1) (fun i j hi hj e => by
    have h1 := (Xs_back hok hS hu hz hi).2
    have h2 := (Xs_back hok hS hu hz hj).2
    rw [e, h2] at h1; exact h1.symm) y hy
theorem trn_lt {s : RS} (hs : Rok G.n s) {m : Nat} (hm : itr G 2 s m ≠ none) {i : Nat} (hi : i < sh) : ∀ k, k ≤ m → trn G f g s k i < sh
  | 0, _ => hi
  | k + 1, hk => by
    obtain ⟨z, hz⟩ : ∃ z, itr G 2 s (k + 1) = some z := Option.ne_none_iff_exists'.1 (fun e => hm (itr_none e hk))
    obtain ⟨u, hu⟩ : ∃ u, itr G 2 s k = some u := Option.ne_none_iff_exists'.1 (fun e => hm (itr_none e (by omega)))
    rw [trn_some hu]
    have hst : stp G 2 u = some z := by rw [itr, hu] at hz; exact hz
    exact (Xs_back hok hS (itr_ok hok hs hu) hst (trn_lt hs hm hi k (by omega))).1
theorem RG_sw23 {s : RS} (hs : Rok G.n s) (h : ringOK G f g sh s) : ringOK G f g sh (sw23 s) := by
  rw [ringOK_iff] at h ⊢
  intro m h0 h1 h2
  have h3 : itr G 3 s m = some s := map_sw23.1 (by rw [← itr_sw23]; exact h1)
  have h4 : itr G 2 s m = some s := itr_back hok (.inr ⟨rfl, rfl⟩) hs h3
  have h5 : ∀ i, 0 < i → i < m → itr G 2 s i ≠ some s := fun i i0 im e => h2 i i0 im (by
    rw [itr_sw23]; exact map_sw23.2 (itr_back hok (.inl ⟨rfl, rfl⟩) hs e))
  have h6 := h m h0 h4 h5
  have hall := ring_all h4
  have key : ∀ i, i < sh → ∀ k, k ≤ m → trn G f g (sw23 s) k (trn G f g s m i) = trn G f g s (m - k) i := fun i hi k => by
    induction k with
    | zero => intro _; rfl
    | succ k ih =>
      intro hk
      obtain ⟨u, hu⟩ : ∃ u, itr G 2 s (m - (k + 1)) = some u := Option.ne_none_iff_exists'.1 (hall _ (by omega))
      obtain ⟨z, hz⟩ : ∃ z, itr G 2 s (m - k) = some z := by
        by_cases e : k = 0
        · subst e; exact ⟨s, h4⟩
        · exact Option.ne_none_iff_exists'.1 (hall _ (by omega))
      have hst : stp G 2 u = some z := by
        have : m - k = (m - (k + 1)) + 1 := by omega
        rw [this, itr, hu] at hz; exact hz
      have hz2 : itr G 2 z k = some s := by
        have := itr_add G 2 s (m - k) k
        rw [show m - k + k = m by omega, h4, hz] at this
        exact this.symm
      have hz3 : itr G 3 s k = some z := itr_back hok (.inl ⟨rfl, rfl⟩) (itr_ok hok hs hz) hz2
      have hz4 : itr G 2 (sw23 s) k = some (sw23 z) := by rw [itr_sw23, hz3]; rfl
      rw [trn_some hz4, ih (by omega), show m - k = (m - (k + 1)) + 1 by omega, trn_some hu]
      exact (Xs_back hok hS (itr_ok hok hs hu) hst (trn_lt hok hS hs (m := m) (by rw [h4]; simp) hi _ (by omega))).2
  intro i hi
  have := key i hi m (Nat.le_refl _)
  rw [h6 i hi, Nat.sub_self] at this
  exact this
theorem trn_next {s z : RS} (hz : stp G 2 s = some z) {m : Nat} (hm : ∀ k, k ≤ m → itr G 2 s k ≠ none) (i : Nat) : ∀ k, k < m → trn G f g z k (Xs G f g s i) = trn G f g s (k + 1) i := by
  have _ := hok
  have _ := hS
  have h1 : itr G 2 s 1 = some z := by rw [itr]; exact hz
  intro k
  induction k with
  | zero => intro _; rw [trn_some (show itr G 2 s 0 = some s from rfl)]; rfl
  | succ k ih =>
    intro hk
    obtain ⟨u, hu⟩ := Option.ne_none_iff_exists'.1 (hm (k + 1) (by omega))
    have hzu : itr G 2 z k = some u := by
      have := itr_add G 2 s 1 k
      rw [show 1 + k = k + 1 by omega, hu, h1] at this
      exact this.symm
    rw [trn_some hzu, ih (by omega), trn_some hu]
theorem RG_stp {s z : RS} (hs : Rok G.n s) (hz : stp G 2 s = some z) (h : ringOK G f g sh s) : ringOK G f g sh z := by
  rw [ringOK_iff] at h ⊢
  intro m h0 h1 h2
  have hzo := stp_ok hok hs hz
  have e1 : itr G 2 s 1 = some z := by rw [itr]; exact hz
  have nx : ∀ k u, itr G 2 s k = some u → (itr G 2 z k = stp G 2 u) := fun k u hu => by
    have h3 := itr_add G 2 s 1 k
    rw [e1, show 1 + k = k + 1 by omega, itr, hu] at h3
    exact h3.symm
  have back : ∀ k, itr G 2 z k = some z → itr G 2 s k = some s := fun k hk => by
    have h3 : itr G 3 z 1 = some s := itr_back hok (.inl ⟨rfl, rfl⟩) hs e1
    have h4 : itr G 3 z k = some z := itr_back hok (.inl ⟨rfl, rfl⟩) hzo hk
    have h5 : itr G 3 z (1 + k) = itr G 3 s k := by rw [itr_add, h3]; rfl
    have h6 : itr G 3 z (k + 1) = some s := by
      rw [itr_add, h4]; exact h3
    rw [show 1 + k = k + 1 by omega, h6] at h5
    exact itr_back hok (.inr ⟨rfl, rfl⟩) hs h5.symm
  have h3 := back m h1
  have h4 : ∀ i, 0 < i → i < m → itr G 2 s i ≠ some s := fun i i0 im e => h2 i i0 im (by rw [nx i s e]; exact hz)
  have h5 := h m h0 h3 h4
  intro y hy
  obtain ⟨x, hx, rfl⟩ := Xs_surj hok hS hs hz hy
  have hall : ∀ k, k ≤ m + 1 → itr G 2 s k ≠ none := fun k hk e => by
    have : itr G 2 s (m + 1) = some z := by rw [itr, h3]; exact hz
    rw [itr_none e hk] at this; cases this
  rw [trn_next hok hS hz hall x m (by omega), trn_some h3, h5 x hx]
theorem RG_itr {s u : RS} (hs : Rok G.n s) {k : Nat} (hu : itr G 2 s k = some u) (h : ringOK G f g sh s) : ringOK G f g sh u := by
  induction k generalizing u with
  | zero => rw [itr] at hu; injection hu with hu; subst hu; exact h
  | succ k ih =>
    cases hx : itr G 2 s k with
    | none => rw [itr, hx] at hu; cases hu
    | some x =>
      have : stp G 2 x = some u := by rw [itr, hx] at hu; exact hu
      exact RG_stp hok hS (itr_ok hok hs hx) this (ih hx)
theorem RG_stp_iff {s z : RS} (hs : Rok G.n s) (hz : stp G 2 s = some z) : ringOK G f g sh s ↔ ringOK G f g sh z := by
  refine ⟨RG_stp hok hS hs hz, fun h => ?_⟩
  obtain ⟨k, h0, h1, h2 | h2⟩ := itr_ends hok (.inl ⟨rfl, rfl⟩) hs
  · exact ring_open h2
  · have e1 : itr G 2 s 1 = some z := by rw [itr]; exact hz
    have := itr_add G 2 s 1 (k - 1)
    rw [show 1 + (k - 1) = k by omega, h2, e1] at this
    exact RG_itr hok hS (stp_ok hok hs hz) this.symm h
theorem RG_sw01_iff {s : RS} : ringOK G f g sh (sw01 s) ↔ ringOK G f g sh s := by
  have _ := hok
  have _ := hS
  exact ⟨fun h => by have := RG_sw01 h; rwa [sw01_sw] at this, RG_sw01⟩
theorem RG_sw23_iff {s : RS} (hs : Rok G.n s) : ringOK G f g sh (sw23 s) ↔ ringOK G f g sh s :=
  ⟨fun h => by have := RG_sw23 hok hS (sw23_ok hs) h; rwa [sw23_sw] at this, RG_sw23 hok hS hs⟩
end
set_option maxRecDepth 100000 in
theorem frame_dec : ∀ a b c d : Fin 4, dist4 a b c d →
    (frC (edN a b) 4 0, frC (edN a b) 4 1, frC (edN a b) 4 2, frC (edN a b) 4 3) = ((a : Nat), (b : Nat), (c : Nat), (d : Nat)) ∨ (frC (edN a b) 4 0, frC (edN a b) 4 1, frC (edN a b) 4 2, frC (edN a b) 4 3) = ((b : Nat), (a : Nat), (c : Nat), (d : Nat)) ∨
    (frC (edN a b) 4 0, frC (edN a b) 4 1, frC (edN a b) 4 2, frC (edN a b) 4 3) = ((a : Nat), (b : Nat), (d : Nat), (c : Nat)) ∨ (frC (edN a b) 4 0, frC (edN a b) 4 1, frC (edN a b) 4 2, frC (edN a b) 4 3) = ((b : Nat), (a : Nat), (d : Nat), (c : Nat)) := by decide +kernel
section
variable {G : Gl} {f g : Nat → Nat → Int} {sh : Nat} (hok : checkB G = true) (hS : Sh G sh f g)
include hok hS
/-- a frame's ring is its edge's -/
theorem RG_frame {u : RS} (hu : Rok G.n u) : ringOK G f g sh u ↔ ringOK G f g sh (frS u.1 (edN u.2.1 u.2.2.1)) := by
  obtain ⟨t, a, b, c, d⟩ := u
  obtain ⟨l1, l2, l3, l4⟩ := hu.l
  have key := frame_dec ⟨a, l1⟩ ⟨b, l2⟩ ⟨c, l3⟩ ⟨d, l4⟩ hu.d
  simp only [Prod.mk.injEq] at key
  show _ ↔ ringOK G f g sh (t, frC (edN a b) 4 0, frC (edN a b) 4 1, frC (edN a b) 4 2, frC (edN a b) 4 3)
  rcases key with ⟨k0, k1, k2, k3⟩ | ⟨k0, k1, k2, k3⟩ | ⟨k0, k1, k2, k3⟩ | ⟨k0, k1, k2, k3⟩ <;> rw [k0, k1, k2, k3]
  · exact (RG_sw01_iff hok hS (s := (t, a, b, c, d))).symm
  · exact (RG_sw23_iff hok hS hu).symm
  · exact ((RG_sw01_iff hok hS (s := (t, a, b, d, c))).trans (RG_sw23_iff hok hS hu)).symm
end
end Go.Proofs.Ytlckpgahijlmoaa
namespace Go.Proofs.Ytlckpgahijlmoaa
open Go.RowKit Go.Shelf Go.Maps

theorem covG_tet {G : Gl} (hok : checkB G = true) {f g : Nat → Nat → Int} {sh : Nat}
    (hf : ∀ k, k < nF G → ∀ i, i < sh → 0 ≤ f k i ∧ f k i < sh) (hg : ∀ k, k < nF G → ∀ i, i < sh → 0 ≤ g k i ∧ g k i < sh) {s t fc : Nat} (hs : s < sh) (ht : t < G.n) (hc : fc < 4) (hp : ¬ G.tet (4 * t + fc) < 0) :
    ∃ c, c < sh ∧ G.T (4 * t + fc) < G.n ∧ (covG G f g sh).tet (4 * (s * G.n + t) + fc) = ((c * G.n + G.T (4 * t + fc) : Nat) : Int) := by
  obtain ⟨e1, e2, _⟩ := ok_face hok (show 4 * t + fc < 4 * G.n by omega) hp
  have h1 := (covG_at G f g sh s t fc ht hc).1
  rw [if_neg hp] at h1
  have hk := fN_lt hok (show 4 * t + fc < 4 * G.n by omega)
  have hr : 0 ≤ crF G f g t fc s ∧ crF G f g t fc s < sh := by
    unfold crF
    split
    · exact hf _ hk _ hs
    · exact hg _ hk _ hs
  refine ⟨(crF G f g t fc s).toNat, by omega, e2, ?_⟩
  rw [h1, e1]
  obtain ⟨c, hc⟩ : ∃ c : Nat, crF G f g t fc s = (c : Int) := ⟨_, (Int.toNat_of_nonneg hr.1).symm⟩
  rw [hc]
  simp
theorem covG_over {G : Gl} (hok : checkB G = true) {f g : Nat → Nat → Int} {sh : Nat}
    (hf : ∀ k, k < nF G → ∀ i, i < sh → 0 ≤ f k i ∧ f k i < sh) (hg : ∀ k, k < nF G → ∀ i, i < sh → 0 ≤ g k i ∧ g k i < sh) : Over (covG G f g sh) G.n := by
  have dec : ∀ a, a < sh * G.n → 0 < G.n ∧ a / G.n < sh ∧ a % G.n < G.n ∧ a = a / G.n * G.n + a % G.n := fun a ha => by
    have h0 : 0 < G.n := by
      rcases Nat.eq_zero_or_pos G.n with e | e
      · rw [e] at ha; omega
      · exact e
    exact ⟨h0, Nat.div_lt_of_lt_mul (by rw [Nat.mul_comm]; exact ha), Nat.mod_lt _ h0, by rw [Nat.mul_comm]; exact (Nat.div_add_mod a G.n).symm⟩
  have sg : ∀ a fc, a < sh * G.n → fc < 4 → ((covG G f g sh).tet (4 * a + fc) < 0 ↔ G.tet (4 * (a % G.n) + fc) < 0) := fun a fc ha hc => by
    obtain ⟨_, d1, d2, d3⟩ := dec a ha
    by_cases hp : G.tet (4 * (a % G.n) + fc) < 0
    · have h1 := (covG_at G f g sh (a / G.n) (a % G.n) fc d2 hc).1
      rw [if_pos hp, ← d3] at h1
      rw [h1]
    · obtain ⟨c, _, _, h1⟩ := covG_tet hok hf hg d1 d2 hc hp
      rw [← d3] at h1
      rw [h1]
      exact ⟨fun h => by omega, fun h => absurd h hp⟩
  have vl : ∀ a fc, a < sh * G.n → fc < 4 → ¬ (covG G f g sh).tet (4 * a + fc) < 0 → ∃ c, c < sh ∧ G.T (4 * (a % G.n) + fc) < G.n ∧ (covG G f g sh).tet (4 * a + fc) = ((c * G.n + G.T (4 * (a % G.n) + fc) : Nat) : Int) := fun a fc ha hc hp => by
    obtain ⟨_, d1, d2, d3⟩ := dec a ha
    have h2 := covG_tet hok hf hg d1 d2 hc (fun h => hp ((sg a fc ha hc).2 h))
    rwa [← d3] at h2
  refine ⟨fun K hK hp => ?_, fun a b fc ha hb hc hab => by rw [sg a fc ha hc, sg b fc hb hc, hab], fun a b fc ha hb hc hab hp => ?_⟩
  · change K < 4 * (sh * G.n) at hK
    have hkk : 4 * (K / 4) + K % 4 = K := by omega
    obtain ⟨c, h1, h2, h3⟩ := vl (K / 4) (K % 4) (by omega) (by omega) (by rw [hkk]; exact hp)
    rw [hkk] at h3
    rw [h3]
    show ((_ : Nat) : Int).toNat < sh * G.n
    rw [Int.toNat_natCast]
    calc c * G.n + G.T (4 * (K / 4 % G.n) + K % 4) < c * G.n + G.n := by omega
      _ = (c + 1) * G.n := by rw [Nat.succ_mul]
      _ ≤ sh * G.n := Nat.mul_le_mul_right _ h1
  · obtain ⟨c, _, _, h3⟩ := vl a fc ha hc hp
    obtain ⟨c', _, _, h4⟩ := vl b fc hb hc (by rw [sg b fc hb hc, ← hab, ← sg a fc ha hc]; exact hp)
    rw [h3, h4, hab, Int.toNat_natCast, Int.toNat_natCast, Nat.mul_add_mod_self_right, Nat.mul_add_mod_self_right]

section
variable (G : Gl) (v : Value) (sh : Int) (pv : Value) (np : Nat) (len : Nat → Nat) (fp : Nat → Nat → Int) (w : World) (hG : GlAt w.heap.size w v G) (hm : G.n ≤ 9223372036854775807) (hpv : LLs w.heap.size w pv np len fp) (hlen : ∀ k, k < np → len k < 4611686018427387904) (hnp : np < 4611686018427387904)
include hG hm hpv hlen hnp
end
end Go.Proofs.Ytlckpgahijlmoaa
