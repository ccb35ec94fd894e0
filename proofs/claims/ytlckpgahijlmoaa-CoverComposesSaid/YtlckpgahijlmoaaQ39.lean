/- cover's Orientation: what it returns. -/
import Derived.Test.YtlckpgahijlmoaaQ35
import Derived.Test.YtlckpgahijlmoaaQ38
import Derived.Test.YtlckpgahijlmoaaQ24
import Derived.Test.YtlckpgahijlmoaaQ36
import Derived.Laws.OwnMore
/- Coverings: inverses of permutations, signs, the covering of two sheets. Plain laws. -/
namespace Go.Proofs.Ytlckpgahijlmoaa

theorem surj_of_inj : ∀ (n : Nat) (f : Nat → Nat), (∀ i, i < n → f i < n) → (∀ i j, i < n → j < n → f i = f j → i = j) → ∀ j, j < n → ∃ i, i < n ∧ f i = j
  | 0, _, _, _, j, hj => by omega
  | n + 1, f, hr, hi, j, hj => by
    have hlt : ∀ i, i < n → f i ≠ f n := fun i h e => by have := hi i n (by omega) (by omega) e; omega
    have ih := surj_of_inj n (fun i => if f i = n then f n else f i) (fun i h => by
      have h1 := hr i (by omega)
      have h2 := hr n (by omega)
      have h3 := hlt i h
      by_cases e : f i = n
      · simp only [e, if_true]; omega
      · simp only [e, if_false]; omega) (fun a b ha hb e => by
      have h1 := hlt a ha
      have h2 := hlt b hb
      by_cases ea : f a = n <;> by_cases eb : f b = n
      · exact hi a b (by omega) (by omega) (by omega)
      · simp only [ea, eb, if_true, if_false] at e; omega
      · simp only [ea, eb, if_true, if_false] at e; omega
      · simp only [ea, eb, if_false] at e; exact hi a b (by omega) (by omega) e)
    by_cases e1 : j = f n
    · exact ⟨n, by omega, e1.symm⟩
    · by_cases e2 : j = n
      · have hv : f n < n := by have := hr n (by omega); omega
        obtain ⟨i, h1, h2⟩ := ih (f n) hv
        refine ⟨i, by omega, ?_⟩
        by_cases e : f i = n
        · omega
        · simp only [e, if_false] at h2; exact absurd h2 (hlt i h1)
      · obtain ⟨i, h1, h2⟩ := ih j (by omega)
        refine ⟨i, by omega, ?_⟩
        by_cases e : f i = n
        · simp only [e, if_true] at h2; omega
        · simp only [e, if_false] at h2; exact h2
theorem permB_inj {l : Nat} {f : Nat → Int} {n : Int} (h : permB l f n = true) : ∀ i j, i < l → j < l → f i = f j → i = j := by
  simp only [permB, Bool.and_eq_true, permP, List.all_eq_true, List.mem_range, Bool.not_eq_true', List.any_eq_false, beq_iff_eq] at h
  intro i j hi hj e
  rcases Nat.lt_trichotomy i j with q | q | q
  · exact absurd e ((h.1 j hj).2 i q)
  · exact q
  · exact absurd e.symm ((h.1 i hi).2 j q)
theorem invP_at {f : Nat → Int} {l : Nat} (hi : ∀ i j, i < l → j < l → f i = f j → i = j) {i x : Nat} (h : i < l) (hx : f i = x) : invP f l x = i := by
  have key : ∀ k, k ≤ l → i < k → invP f k x = i := fun k => by
    induction k with
    | zero => intro _ h; omega
    | succ k ih =>
      intro hk h1
      show (if (x : Int) = f k then (k : Int) else invP f k x) = i
      by_cases e : (x : Int) = f k
      · rw [if_pos e, hi i k h (by omega) (hx.trans e)]
      · rw [if_neg e]
        exact ih (by omega) (by
          rcases Nat.lt_or_ge i k with q | q
          · exact q
          · have : i = k := by omega
            subst this; exact absurd hx.symm e)
  exact key l (Nat.le_refl _) h
theorem sh_of {G : Gl} {sh : Nat} {len : Nat → Nat} {f : Nat → Nat → Int} (h : ∀ k, k < nF G → permB (len k) (f k) sh = true) : Sh G sh f (fun k => invP (f k) sh) := by
  have hl : ∀ k, k < nF G → len k = sh := fun k hk => by have := (permB_range (h k hk)).1; omega
  have hr : ∀ k i, k < nF G → i < sh → ∃ j : Nat, f k i = j ∧ j < sh := fun k i hk hi => by
    have := (permB_range (h k hk)).2 i (by rw [hl k hk]; exact hi)
    exact ⟨(f k i).toNat, by omega, by omega⟩
  have hin : ∀ k, k < nF G → ∀ i j, i < sh → j < sh → f k i = f k j → i = j := fun k hk i j hi hj e => permB_inj (h k hk) i j (by rw [hl k hk]; exact hi) (by rw [hl k hk]; exact hj) e
  have hs : ∀ k i, k < nF G → i < sh → ∃ j, j < sh ∧ f k j = i := fun k i hk hi => by
    obtain ⟨j, h1, h2⟩ := surj_of_inj sh (fun i => (f k i).toNat) (fun i hi => by obtain ⟨j, h1, h2⟩ := hr k i hk hi; show (f k i).toNat < sh; rw [h1]; simpa using h2)
      (fun a b ha hb e => hin k hk a b ha hb (by
        obtain ⟨j, h1, -⟩ := hr k a hk ha
        obtain ⟨m, h2, -⟩ := hr k b hk hb
        simp only [h1, h2, Int.toNat_natCast] at e
        rw [h1, h2, e])) i hi
    obtain ⟨m, h3, -⟩ := hr k j hk h1
    refine ⟨j, h1, ?_⟩
    simp only [h3, Int.toNat_natCast] at h2
    rw [h3, h2]
  refine ⟨hr, fun k i hk hi => ?_, fun k i j hk hi e => invP_at (hin k hk) hi e, fun k i j hk hi e => ?_⟩
  · obtain ⟨j, h1, h2⟩ := hs k i hk hi
    exact ⟨j, invP_at (hin k hk) h1 h2, h1⟩
  · obtain ⟨m, h1, h2⟩ := hs k i hk hi
    have := invP_at (hin k hk) h1 h2
    rw [this] at e
    have : m = j := by omega
    subst this; exact h2
theorem CovOK.sh {G : Gl} {sh : Int} {np : Nat} {len : Nat → Nat} {fp : Nat → Nat → Int} (h : CovOK G sh np len fp) : Sh G sh.toNat fp (fun k => invP (fp k) sh.toNat) :=
  sh_of (len := len) fun k hk => by
    have := h.perms k (by rw [h.num]; exact hk)
    have h1 := h.lo
    rw [show ((sh.toNat : Nat) : Int) = sh by omega]; exact this
theorem CovOK.valid {G : Gl} {sh : Int} {np : Nat} {len : Nat → Nat} {fp : Nat → Nat → Int} (hok : checkB G = true) (h : CovOK G sh np len fp) : checkB (covG G fp (fun k => invP (fp k) sh.toNat) sh.toNat) = true :=
  cov_valid hok h.sh h.small.2

/-- the covering by identities -/
def idF (_ i : Nat) : Int := i
theorem shA_step {G : Gl} {f g : Nat → Nat → Int} {s u : RS} {m k i : Nat} (h1 : itr G 2 s m = some s) (hk : k < m) (hu : itr G 2 s k = some u) : shA G f g (pth G 2 s m) i (k + 1) = (crF G f g u.1 (rp u 2) (shA G f g (pth G 2 s m) i k)).toNat := by
  have : (pth G 2 s m)[k]? = some u := (pth_get (ring_all h1) k hk).trans hu
  simp only [shA, this]
/-- the sign of four numbers -/
def sel (a b c d i : Nat) : Nat := if i = 0 then a else if i = 1 then b else if i = 2 then c else d
def dist4 (a b c d : Nat) : Prop := a ≠ b ∧ a ≠ c ∧ a ≠ d ∧ b ≠ c ∧ b ≠ d ∧ c ≠ d
instance (a b c d : Nat) : Decidable (dist4 a b c d) := by unfold dist4; infer_instance
section
variable {G : Gl} (hok : checkB G = true)
include hok
end
/-- the class of triangles is turned -/
def tcB (G : Gl) (c : Nat) : Bool := (List.range (4 * G.n)).any fun j => decide (isF G j) && fN G j == c && decide (0 ≤ G.tet j) && SignI (G.pm j) == 1
/-- the covering of two sheets -/
def orF (G : Gl) (c i : Nat) : Int := if tcB G c then 1 - i else i
theorem SignI_R (p : Nat → Int) : SignI p = SignR p := by unfold SignI SignR; rw [valid_same]
section
variable {G : Gl} (hok : checkB G = true)
include hok
theorem tc_at {k : Nat} (hk : k < 4 * G.n) (hf : isF G k) : tcB G (fN G k) = true ↔ (0 ≤ G.tet k ∧ SignR (G.pm k) = 1) := by
  simp only [tcB, List.any_eq_true, List.mem_range, Bool.and_eq_true, decide_eq_true_eq, beq_iff_eq, SignI_R]
  constructor
  · rintro ⟨j, hj, ⟨⟨h1, h2⟩, h3⟩, h4⟩
    rcases fN_eq hok hk hj h2.symm with e | ⟨t, e⟩
    · subst e; exact ⟨h3, h4⟩
    · subst e; exact absurd hf ((isF_tb hok hk t).1 h1)
  · rintro ⟨h1, h2⟩
    exact ⟨k, hk, ⟨⟨hf, rfl⟩, h1⟩, h2⟩
end
/-- two gluings with the same faces -/
theorem GlAt.congr {B : Nat} {W : World} {v : Value} {G H : Gl} (h : GlAt B W v G) (hn : G.n = H.n) (ht : ∀ k, k < 4 * G.n → G.tet k = H.tet k) (hp : ∀ k, k < 4 * G.n → ∀ i, i < 4 → G.pm k i = H.pm k i) : GlAt B W v H := by
  obtain ⟨a, b, off, cap, e, hB, hc⟩ := h
  rw [hn] at e hB hc ht hp
  exact ⟨a, b, off, cap, e, hB, fun k hk => ⟨by rw [← ht k hk]; exact (hc k hk).1, fun i hi => by rw [← hp k hk i hi]; exact (hc k hk).2 i hi⟩⟩
end Go.Proofs.Ytlckpgahijlmoaa
/- The rings of edges: the condition of a ring depends on the class of the edge alone. Plain laws. -/
namespace Go.Proofs.Ytlckpgahijlmoaa

def sw01 (s : RS) : RS := (s.1, s.2.2.1, s.2.1, s.2.2.2.1, s.2.2.2.2)
def sw23 (s : RS) : RS := (s.1, s.2.1, s.2.2.1, s.2.2.2.2, s.2.2.2.1)
theorem sw01_sw (s : RS) : sw01 (sw01 s) = s := rfl
theorem sw23_sw (s : RS) : sw23 (sw23 s) = s := rfl
theorem sw23_ok {n : Nat} {s : RS} (h : Rok n s) : Rok n (sw23 s) := by
  obtain ⟨l1, l2, l3, l4⟩ := h.l
  obtain ⟨d1, d2, d3, d4, d5, d6⟩ := h.d
  exact ⟨h.t, ⟨l1, l2, l4, l3⟩, ⟨d1, d3, d2, d5, d4, d6.symm⟩⟩
theorem itr_sw01 (G : Gl) (s : RS) : ∀ k, itr G 2 (sw01 s) k = (itr G 2 s k).map sw01
  | 0 => rfl
  | k + 1 => by
    rw [itr, itr, itr_sw01 G s k]
    cases itr G 2 s k with
    | none => rfl
    | some u =>
      show stp G 2 (sw01 u) = (stp G 2 u).map sw01
      unfold stp
      show (if G.tet (4 * u.1 + u.2.2.2.1) < 0 then none else _) = Option.map sw01 (if G.tet (4 * u.1 + u.2.2.2.1) < 0 then none else _)
      split <;> rfl
theorem itr_sw23 (G : Gl) (s : RS) : ∀ k, itr G 2 (sw23 s) k = (itr G 3 s k).map sw23
  | 0 => rfl
  | k + 1 => by
    rw [itr, itr, itr_sw23 G s k]
    cases itr G 3 s k with
    | none => rfl
    | some u =>
      show stp G 2 (sw23 u) = (stp G 3 u).map sw23
      unfold stp
      show (if G.tet (4 * u.1 + u.2.2.2.2) < 0 then none else _) = Option.map sw23 (if G.tet (4 * u.1 + u.2.2.2.2) < 0 then none else _)
      split <;> rfl
theorem map_sw01 {o : Option RS} {s : RS} : o.map sw01 = some (sw01 s) ↔ o = some s := by
  cases o with
  | none => simp
  | some u =>
    simp only [Option.map_some, Option.some.injEq]
    exact ⟨fun h => by rw [← sw01_sw u, h, sw01_sw], fun h => by rw [h]⟩
theorem map_sw23 {o : Option RS} {s : RS} : o.map sw23 = some (sw23 s) ↔ o = some s := by
  cases o with
  | none => simp
  | some u =>
    simp only [Option.map_some, Option.some.injEq]
    exact ⟨fun h => by rw [← sw23_sw u, h, sw23_sw], fun h => by rw [h]⟩

section
variable {G : Gl} {f g : Nat → Nat → Int} {sh : Nat}
/-- the sheet behind the face ahead -/
def Xs (G : Gl) (f g : Nat → Nat → Int) (u : RS) (x : Nat) : Nat := (crF G f g u.1 (rp u 2) x).toNat
/-- the sheet after k steps -/
def trn (G : Gl) (f g : Nat → Nat → Int) (s : RS) : Nat → Nat → Nat
  | 0, i => i
  | k + 1, i => match itr G 2 s k with
    | some u => Xs G f g u (trn G f g s k i)
    | none => trn G f g s k i
theorem trn_some {s u : RS} {k i : Nat} (h : itr G 2 s k = some u) : trn G f g s (k + 1) i = Xs G f g u (trn G f g s k i) := by
  simp only [trn, h]
theorem shA_trn {s : RS} {m : Nat} (h : itr G 2 s m = some s) (i : Nat) : ∀ k, k ≤ m → shA G f g (pth G 2 s m) i k = trn G f g s k i
  | 0, _ => rfl
  | k + 1, hk => by
    obtain ⟨u, hu⟩ := Option.ne_none_iff_exists'.1 (ring_all h k (by omega))
    rw [shA_step h (by omega) hu, trn_some hu, shA_trn h i k (by omega)]; rfl
theorem ringOK_iff {s : RS} : ringOK G f g sh s ↔ ∀ m, 0 < m → itr G 2 s m = some s → (∀ i, 0 < i → i < m → itr G 2 s i ≠ some s) → ∀ i, i < sh → trn G f g s m i = i := by
  constructor
  · intro h m h0 h1 h2 i hi
    rw [← shA_trn h1 i m (Nat.le_refl _)]
    exact h m h0 h1 h2 i hi
  · intro h m h0 h1 h2 i hi
    rw [shA_trn h1 i m (Nat.le_refl _)]
    exact h m h0 h1 h2 i hi
theorem trn_sw01 (s : RS) (i : Nat) : ∀ k, trn G f g (sw01 s) k i = trn G f g s k i
  | 0 => rfl
  | k + 1 => by
    have ih := trn_sw01 s i k
    cases h : itr G 2 s k with
    | none =>
      have h2 : itr G 2 (sw01 s) k = none := by rw [itr_sw01, h]; rfl
      simp only [trn, h, h2, ih]
    | some u =>
      have h2 : itr G 2 (sw01 s) k = some (sw01 u) := by rw [itr_sw01, h]; rfl
      rw [trn_some h, trn_some h2, ih]; rfl
theorem RG_sw01 {s : RS} (h : ringOK G f g sh s) : ringOK G f g sh (sw01 s) := by
  rw [ringOK_iff] at h ⊢
  intro m h0 h1 h2 i hi
  rw [trn_sw01]
  exact h m h0 (map_sw01.1 (by rw [← itr_sw01]; exact h1)) (fun j j0 jm e => h2 j j0 jm (by rw [itr_sw01]; exact map_sw01.2 e)) i hi
variable (hok : checkB G = true) (hS : Sh G sh f g)
include hok hS
theorem Xs_lt {u : RS} (hu : Rok G.n u) (ht : ¬ G.tet (4 * u.1 + rp u 2) < 0) {x : Nat} (hx : x < sh) : Xs G f g u x < sh := by
  have hr := rp_lt hu 2
  have := hu.t
  obtain ⟨s', h1, h2, -⟩ := cr_back hok hS (show 4 * u.1 + rp u 2 < 4 * G.n by omega) ht hx
  rw [show (4 * u.1 + rp u 2) / 4 = u.1 by omega, show (4 * u.1 + rp u 2) % 4 = rp u 2 by omega] at h1
  unfold Xs; rw [h1]; simpa using h2
/-- the way back, with the other label -/
theorem Xs_back {u z : RS} (hu : Rok G.n u) (hz : stp G 2 u = some z) {x : Nat} (hx : x < sh) : Xs G f g u x < sh ∧ Xs G f g (sw23 z) (Xs G f g u x) = x := by
  have hr := rp_lt hu 2
  have ht := hu.t
  have hn : ¬ G.tet (4 * u.1 + rp u 2) < 0 := fun h => by unfold stp at hz; rw [if_pos h] at hz; cases hz
  refine ⟨Xs_lt hok hS hu hn hx, ?_⟩
  obtain ⟨s', h1, h2, h3⟩ := cr_back hok hS (show 4 * u.1 + rp u 2 < 4 * G.n by omega) hn hx
  rw [show (4 * u.1 + rp u 2) / 4 = u.1 by omega, show (4 * u.1 + rp u 2) % 4 = rp u 2 by omega] at h1
  have e1 : Xs G f g u x = s' := by unfold Xs; rw [h1]; simp
  obtain ⟨f1, f2, f3, f4, f5, f6, f7⟩ := tb_facts hok (show 4 * u.1 + rp u 2 < 4 * G.n by omega) hn
  unfold stp at hz
  rw [if_neg hn] at hz
  injection hz with hz
  have e2 : z.1 = tb G (4 * u.1 + rp u 2) / 4 := by rw [← hz, f5]
  have e3 : rp (sw23 z) 2 = tb G (4 * u.1 + rp u 2) % 4 := by
    rw [f6, ← hz, show (4 * u.1 + rp u 2) % 4 = rp u 2 by omega]; rfl
  show (crF G f g z.1 (rp (sw23 z) 2) (Xs G f g u x)).toNat = x
  rw [e2, e3, e1, h3]; simp
theorem Xs_surj {u z : RS} (hu : Rok G.n u) (hz : stp G 2 u = some z) {y : Nat} (hy : y < sh) : ∃ x, x < sh ∧ Xs G f g u x = y :=
  surj_of_inj sh (Xs G f g u) (fun i hi => (Xs_back hok hS hu hz hi).1) (fun i j hi hj e => by
    have h1 := (Xs_back hok hS hu hz hi).2
    have h2 := (Xs_back hok hS hu hz hj).2
    rw [e, h2] at h1; exact h1.symm) y hy
theorem trn_lt {s : RS} (hs : Rok G.n s) {m : Nat} (hm : itr G 2 s m ≠ none) {i : Nat} (hi : i < sh) : ∀ k, k ≤ m → trn G f g s k i < sh
  | 0, _ => hi
  | k + 1, hk => by
    obtain ⟨z, hz⟩ : ∃ z, itr G 2 s (k + 1) = some z := Option.ne_none_iff_exists'.1 (fun e => hm (itr_none e hk))
    obtain ⟨u, hu⟩ : ∃ u, itr G 2 s k = some u := Option.ne_none_iff_exists'.1 (fun e => hm (itr_none e (by omega)))
    rw [trn_some hu]
    have hst : stp G 2 u = some z := by rw [itr, hu] at hz; exact hz
    exact (Xs_back hok hS (itr_ok hok hs hu) hst (trn_lt hs hm hi k (by omega))).1
theorem RG_sw23 {s : RS} (hs : Rok G.n s) (h : ringOK G f g sh s) : ringOK G f g sh (sw23 s) := by
  rw [ringOK_iff] at h ⊢
  intro m h0 h1 h2
  have h3 : itr G 3 s m = some s := map_sw23.1 (by rw [← itr_sw23]; exact h1)
  have h4 : itr G 2 s m = some s := itr_back hok (.inr ⟨rfl, rfl⟩) hs h3
  have h5 : ∀ i, 0 < i → i < m → itr G 2 s i ≠ some s := fun i i0 im e => h2 i i0 im (by
    rw [itr_sw23]; exact map_sw23.2 (itr_back hok (.inl ⟨rfl, rfl⟩) hs e))
  have h6 := h m h0 h4 h5
  have hall := ring_all h4
  have key : ∀ i, i < sh → ∀ k, k ≤ m → trn G f g (sw23 s) k (trn G f g s m i) = trn G f g s (m - k) i := fun i hi k => by
    induction k with
    | zero => intro _; rfl
    | succ k ih =>
      intro hk
      obtain ⟨u, hu⟩ : ∃ u, itr G 2 s (m - (k + 1)) = some u := Option.ne_none_iff_exists'.1 (hall _ (by omega))
      obtain ⟨z, hz⟩ : ∃ z, itr G 2 s (m - k) = some z := by
        by_cases e : k = 0
        · subst e; exact ⟨s, h4⟩
        · exact Option.ne_none_iff_exists'.1 (hall _ (by omega))
      have hst : stp G 2 u = some z := by
        have : m - k = (m - (k + 1)) + 1 := by omega
        rw [this, itr, hu] at hz; exact hz
      have hz2 : itr G 2 z k = some s := by
        have := itr_add G 2 s (m - k) k
        rw [show m - k + k = m by omega, h4, hz] at this
        exact this.symm
      have hz3 : itr G 3 s k = some z := itr_back hok (.inl ⟨rfl, rfl⟩) (itr_ok hok hs hz) hz2
      have hz4 : itr G 2 (sw23 s) k = some (sw23 z) := by rw [itr_sw23, hz3]; rfl
      rw [trn_some hz4, ih (by omega), show m - k = (m - (k + 1)) + 1 by omega, trn_some hu]
      exact (Xs_back hok hS (itr_ok hok hs hu) hst (trn_lt hok hS hs (m := m) (by rw [h4]; simp) hi _ (by omega))).2
  intro i hi
  have := key i hi m (Nat.le_refl _)
  rw [h6 i hi, Nat.sub_self] at this
  exact this
theorem trn_next {s z : RS} (hz : stp G 2 s = some z) {m : Nat} (hm : ∀ k, k ≤ m → itr G 2 s k ≠ none) (i : Nat) : ∀ k, k < m → trn G f g z k (Xs G f g s i) = trn G f g s (k + 1) i := by
  have _ := hok
  have _ := hS
  have h1 : itr G 2 s 1 = some z := by rw [itr]; exact hz
  intro k
  induction k with
  | zero => intro _; rw [trn_some (show itr G 2 s 0 = some s from rfl)]; rfl
  | succ k ih =>
    intro hk
    obtain ⟨u, hu⟩ := Option.ne_none_iff_exists'.1 (hm (k + 1) (by omega))
    have hzu : itr G 2 z k = some u := by
      have := itr_add G 2 s 1 k
      rw [show 1 + k = k + 1 by omega, hu, h1] at this
      exact this.symm
    rw [trn_some hzu, ih (by omega), trn_some hu]
theorem RG_stp {s z : RS} (hs : Rok G.n s) (hz : stp G 2 s = some z) (h : ringOK G f g sh s) : ringOK G f g sh z := by
  rw [ringOK_iff] at h ⊢
  intro m h0 h1 h2
  have hzo := stp_ok hok hs hz
  have e1 : itr G 2 s 1 = some z := by rw [itr]; exact hz
  have nx : ∀ k u, itr G 2 s k = some u → (itr G 2 z k = stp G 2 u) := fun k u hu => by
    have h3 := itr_add G 2 s 1 k
    rw [e1, show 1 + k = k + 1 by omega, itr, hu] at h3
    exact h3.symm
  have back : ∀ k, itr G 2 z k = some z → itr G 2 s k = some s := fun k hk => by
    have h3 : itr G 3 z 1 = some s := itr_back hok (.inl ⟨rfl, rfl⟩) hs e1
    have h4 : itr G 3 z k = some z := itr_back hok (.inl ⟨rfl, rfl⟩) hzo hk
    have h5 : itr G 3 z (1 + k) = itr G 3 s k := by rw [itr_add, h3]; rfl
    have h6 : itr G 3 z (k + 1) = some s := by
      rw [itr_add, h4]; exact h3
    rw [show 1 + k = k + 1 by omega, h6] at h5
    exact itr_back hok (.inr ⟨rfl, rfl⟩) hs h5.symm
  have h3 := back m h1
  have h4 : ∀ i, 0 < i → i < m → itr G 2 s i ≠ some s := fun i i0 im e => h2 i i0 im (by rw [nx i s e]; exact hz)
  have h5 := h m h0 h3 h4
  intro y hy
  obtain ⟨x, hx, rfl⟩ := Xs_surj hok hS hs hz hy
  have hall : ∀ k, k ≤ m + 1 → itr G 2 s k ≠ none := fun k hk e => by
    have : itr G 2 s (m + 1) = some z := by rw [itr, h3]; exact hz
    rw [itr_none e hk] at this; cases this
  rw [trn_next hok hS hz hall x m (by omega), trn_some h3, h5 x hx]
theorem RG_itr {s u : RS} (hs : Rok G.n s) {k : Nat} (hu : itr G 2 s k = some u) (h : ringOK G f g sh s) : ringOK G f g sh u := by
  induction k generalizing u with
  | zero => rw [itr] at hu; injection hu with hu; subst hu; exact h
  | succ k ih =>
    cases hx : itr G 2 s k with
    | none => rw [itr, hx] at hu; cases hu
    | some x =>
      have : stp G 2 x = some u := by rw [itr, hx] at hu; exact hu
      exact RG_stp hok hS (itr_ok hok hs hx) this (ih hx)
theorem RG_stp_iff {s z : RS} (hs : Rok G.n s) (hz : stp G 2 s = some z) : ringOK G f g sh s ↔ ringOK G f g sh z := by
  refine ⟨RG_stp hok hS hs hz, fun h => ?_⟩
  obtain ⟨k, h0, h1, h2 | h2⟩ := itr_ends hok (.inl ⟨rfl, rfl⟩) hs
  · exact ring_open h2
  · have e1 : itr G 2 s 1 = some z := by rw [itr]; exact hz
    have := itr_add G 2 s 1 (k - 1)
    rw [show 1 + (k - 1) = k by omega, h2, e1] at this
    exact RG_itr hok hS (stp_ok hok hs hz) this.symm h
theorem RG_sw01_iff {s : RS} : ringOK G f g sh (sw01 s) ↔ ringOK G f g sh s := by
  have _ := hok
  have _ := hS
  exact ⟨fun h => by have := RG_sw01 h; rwa [sw01_sw] at this, RG_sw01⟩
theorem RG_sw23_iff {s : RS} (hs : Rok G.n s) : ringOK G f g sh (sw23 s) ↔ ringOK G f g sh s :=
  ⟨fun h => by have := RG_sw23 hok hS (sw23_ok hs) h; rwa [sw23_sw] at this, RG_sw23 hok hS hs⟩
end
set_option maxRecDepth 100000 in
theorem frame_dec : ∀ a b c d : Fin 4, dist4 a b c d →
    (frC (edN a b) 4 0, frC (edN a b) 4 1, frC (edN a b) 4 2, frC (edN a b) 4 3) = ((a : Nat), (b : Nat), (c : Nat), (d : Nat)) ∨ (frC (edN a b) 4 0, frC (edN a b) 4 1, frC (edN a b) 4 2, frC (edN a b) 4 3) = ((b : Nat), (a : Nat), (c : Nat), (d : Nat)) ∨
    (frC (edN a b) 4 0, frC (edN a b) 4 1, frC (edN a b) 4 2, frC (edN a b) 4 3) = ((a : Nat), (b : Nat), (d : Nat), (c : Nat)) ∨ (frC (edN a b) 4 0, frC (edN a b) 4 1, frC (edN a b) 4 2, frC (edN a b) 4 3) = ((b : Nat), (a : Nat), (d : Nat), (c : Nat)) := by decide +kernel
section
variable {G : Gl} {f g : Nat → Nat → Int} {sh : Nat} (hok : checkB G = true) (hS : Sh G sh f g)
include hok hS
/-- a frame's ring is its edge's -/
theorem RG_frame {u : RS} (hu : Rok G.n u) : ringOK G f g sh u ↔ ringOK G f g sh (frS u.1 (edN u.2.1 u.2.2.1)) := by
  obtain ⟨t, a, b, c, d⟩ := u
  obtain ⟨l1, l2, l3, l4⟩ := hu.l
  have key := frame_dec ⟨a, l1⟩ ⟨b, l2⟩ ⟨c, l3⟩ ⟨d, l4⟩ hu.d
  simp only [Prod.mk.injEq] at key
  show _ ↔ ringOK G f g sh (t, frC (edN a b) 4 0, frC (edN a b) 4 1, frC (edN a b) 4 2, frC (edN a b) 4 3)
  rcases key with ⟨k0, k1, k2, k3⟩ | ⟨k0, k1, k2, k3⟩ | ⟨k0, k1, k2, k3⟩ | ⟨k0, k1, k2, k3⟩ <;> rw [k0, k1, k2, k3]
  · exact (RG_sw01_iff hok hS (s := (t, a, b, c, d))).symm
  · exact (RG_sw23_iff hok hS hu).symm
  · exact ((RG_sw01_iff hok hS (s := (t, a, b, d, c))).trans (RG_sw23_iff hok hS hu)).symm
end
end Go.Proofs.Ytlckpgahijlmoaa
/- cover's Orientation and Image: the lists under way. -/
namespace Go.Proofs.Ytlckpgahijlmoaa
open Go.RowKit Go.Shelf Go.Maps

/-- a list of at most 24 numbers in a block of its own -/
def ROW (W : World) (D : Nat) (ob : Option Nat) (x : Value) : Prop :=
  ∃ (a : Option Addr) (d cap l : Nat) (f : Nat → Int), x = .slice a l cap ∧ l ≤ 24 ∧ (0 < l → a = some ⟨d, 0, none⟩ ∧ D < d ∧ d < W.heap.size ∧ ob ≠ some d) ∧ ∀ i, i < l → W.cell? ⟨d, i, none⟩ = some (.int .i64 (f i))
theorem ROW.kept {W W' : World} {D : Nat} {ob row : Option Nat} {x : Value} (h : ROW W D ob x) (hg : W.grownBy W' row) (hr : row = none ∨ row = ob ∨ (∃ r, row = some r ∧ r ≤ D) ∨ ∃ r, row = some r ∧ ∀ d, d < W.heap.size → (∃ i y, W.cell? ⟨d, i, none⟩ = some y) → d ≠ r) : ROW W' D ob x := by
  obtain ⟨a, d, cap, l, f, e, h1, h2, h3⟩ := h
  refine ⟨a, d, cap, l, f, e, h1, fun hp => ?_, fun i hi => hg.cell (h3 i hi) (fun q => ?_)⟩
  · obtain ⟨q1, q2, q3, q4⟩ := h2 hp
    exact ⟨q1, q2, Nat.lt_of_lt_of_le q3 hg.size, q4⟩
  · obtain ⟨q1, q2, q3, q4⟩ := h2 (by omega)
    change some d = row at q
    rcases hr with r | r | ⟨r, r1, r2⟩ | ⟨r, r1, r2⟩
    · rw [r] at q; cases q
    · exact q4 (r.symm.trans q.symm)
    · rw [r1] at q; injection q with q; omega
    · rw [r1] at q; injection q with q; exact r2 d q3 ⟨i, _, h3 i hi⟩ q
theorem ROW.other {W : World} {D : Nat} {ob ob' : Option Nat} {x : Value} (h : ROW W D ob x) (ho : ∀ d, d < W.heap.size → ob ≠ some d → ob' ≠ some d) : ROW W D ob' x := by
  obtain ⟨a, d, cap, l, f, e, h1, h2, h3⟩ := h
  exact ⟨a, d, cap, l, f, e, h1, fun hp => by obtain ⟨q1, q2, q3, q4⟩ := h2 hp; exact ⟨q1, q2, q3, ho d q3 q4⟩, h3⟩
/-- a covering's cells at D, its lists under way -/
structure CO (W0 W : World) (D k : Nat) (S : Int) (uv : Value) (xs : List Value) : Prop where
  own : W.ownsRow (D + 1) 35 1 uv k xs
  row : ∀ (j : Nat) (x : Value), xs[j]? = some x → ROW W D uv.ownBlock x
  d0 : W.cell? ⟨D, 0, none⟩ = some (.int .i64 S)
  d1 : W.cell? ⟨D, 1, none⟩ = some uv
  f1 : W.frozen? ⟨D, 1, none⟩ = false
  bel : Below D W0 W
theorem CO.kept {W0 W W' : World} {D k : Nat} {S : Int} {uv : Value} {xs : List Value} (h : CO W0 W D k S uv xs) (hg : W.grownBy W' none) : CO W0 W' D k S uv xs :=
  ⟨h.own.kept hg (by cases uv.ownBlock <;> simp), fun j x hx => (h.row j x hx).kept hg (.inl rfl), hg.cell h.d0 (by simp), hg.cell h.d1 (by simp), (hg.frozen_far ⟨D, 1, none⟩ (lt_of_cell h.d1) (by simp)).trans h.f1, h.bel.grown hg (by have := lt_of_cell h.d0; simp only at this; omega) (fun r e => by cases e)⟩
theorem CO.ne {W0 W : World} {D k : Nat} {S : Int} {uv : Value} {xs : List Value} (h : CO W0 W D k S uv xs) : some D ≠ uv.ownBlock := fun e => by
  have := (h.own.lt D e.symm).1; omega
theorem CO.push {W0 W W2 w2 : World} {D k g gc : Nat} {S : Int} {uv x : Value} {xs : List Value} (h : CO W0 W D k S uv xs) (hg : W.grownBy W2 none) (hx : ∀ ob, (∀ d, ob = some d → d < W.heap.size ∨ d = W2.heap.size) → ROW W2 D ob x)
    (hown : w2.ownsRow (D + 1) 35 1 (.slice (some ⟨g, 0, none⟩) (k + 1) gc) (k + 1) (xs ++ [x])) (hgrow : W2.grownBy w2 uv.ownBlock) (hat : uv.ownBlock = some g ∨ g = W2.heap.size) :
    CO W0 (w2.setCell ⟨D, 1, none⟩ (.slice (some ⟨g, 0, none⟩) (k + 1) gc)) D (k + 1) S (.slice (some ⟨g, 0, none⟩) (k + 1) gc) (xs ++ [x]) := by
  have h1 := h.kept hg
  have hDl := lt_of_cell h.d0
  simp only at hDl
  have hxl := h.own.1
  have hs2 := hg.size
  have hsc := grownBy_setCell w2 D 1 (.slice (some ⟨g, 0, none⟩) (k + 1) gc)
  have hob : ∀ j, uv.ownBlock = some j → D + 1 ≤ j ∧ j < W.heap.size := fun j hj => h.own.lt j hj
  have hgD : g ≠ D := fun e => by
    rcases hat with q | q
    · have := (hob g q).1; omega
    · omega
  have sh : ∀ y, ROW W2 D uv.ownBlock y → ROW (w2.setCell ⟨D, 1, none⟩ (.slice (some ⟨g, 0, none⟩) (k + 1) gc)) D (Value.slice (some ⟨g, 0, none⟩) (k + 1) gc).ownBlock y := fun y hy => by
    obtain ⟨a, d, cap, l, f, e, p1, p2, p3⟩ := hy
    refine ⟨a, d, cap, l, f, e, p1, fun hp => ?_, fun i hi => ?_⟩
    · obtain ⟨q1, q2, q3, q4⟩ := p2 hp
      refine ⟨q1, q2, by simp only [World.size_setCell]; exact Nat.lt_of_lt_of_le q3 hgrow.size, ?_⟩
      simp only [Value.ownBlock, ne_eq, Option.some.injEq]
      intro q
      rcases hat with z | z
      · subst q; exact q4 z
      · omega
    · obtain ⟨q1, q2, q3, q4⟩ := p2 (by omega)
      exact hsc.cell (hgrow.cell (p3 i hi) (fun q => q4 q.symm)) (by simp; omega)
  refine ⟨hown.kept hsc (.inr (by simp only [Value.ownBlock, ne_eq, Option.some.injEq]; exact hgD)), fun j y hy => ?_, ?_, World.cell?_setCell_same _ _ _ (hgrow.cell h1.d1 h.ne), ?_, ?_⟩
  · rcases Nat.lt_or_ge j xs.length with hj | hj
    · rw [List.getElem?_append_left hj] at hy
      exact sh y (h1.row j y hy)
    · rw [List.getElem?_append_right hj] at hy
      have : y = x := by
        cases hjj : j - xs.length with
        | zero => rw [hjj] at hy; simpa using hy.symm
        | succ m => rw [hjj] at hy; simp at hy
      subst this
      exact sh y (hx uv.ownBlock (fun d hd => .inl (hob d hd).2))
  · exact (World.cell?_setCell_other (a := ⟨D, 1, none⟩) (b := ⟨D, 0, none⟩) _ _ (by simp)).trans (hgrow.cell h1.d0 h.ne)
  · rw [World.frozen?_setCell]; exact (hgrow.frozen_far ⟨D, 1, none⟩ (lt_of_cell h1.d1) h.ne).trans h1.f1
  · exact (h1.bel.grown hgrow (by omega) (fun r e => by have := (hob r e).1; omega)).setCell (by show D ≤ D; omega) _
/-- a list is put in the place of another -/
theorem CO.put {W0 W W2 : World} {D k g gc j : Nat} {S : Int} {x : Value} {xs : List Value} (h : CO W0 W D k S (.slice (some ⟨g, 0, none⟩) k gc) xs) (hg : W.grownBy W2 none) (hx : ROW W2 D (some g) x) :
    CO W0 (W2.setCell ⟨g, j, none⟩ x) D k S (.slice (some ⟨g, 0, none⟩) k gc) (xs.set j x) := by
  have h1 := h.kept hg
  obtain ⟨s1, s2⟩ := h1.own.stored j x
  have hgD := (h.own.lt g rfl).1
  have hne : some D ≠ some g := by simp; omega
  refine ⟨s1, fun i y hy => ?_, s2.cell h1.d0 hne, s2.cell h1.d1 hne, (s2.frozen_far ⟨D, 1, none⟩ (lt_of_cell h1.d1) hne).trans h1.f1, h1.bel.setCell (by show D ≤ g; omega) _⟩
  refine ROW.kept ?_ s2 (.inr (.inl rfl))
  by_cases e : j = i
  · subst e
    have hjl : j < (xs.set j x).length := (List.getElem?_eq_some_iff.1 hy).1
    rw [List.length_set] at hjl
    rw [List.getElem?_set_self hjl] at hy
    injection hy with hy; subst hy; exact hx
  · rw [List.getElem?_set_ne e] at hy
    exact h1.row i y hy
theorem CO.keptR {W0 W W' : World} {D k R : Nat} {S : Int} {uv : Value} {xs : List Value} (h : CO W0 W D k S uv xs) (hD : D < R) (hR : ∀ i y, W.cell? ⟨R, i, none⟩ ≠ some y) (hR2 : uv.ownBlock ≠ some R) (hg : W.grownBy W' (some R)) : CO W0 W' D k S uv xs := by
  have hne : some D ≠ some R := by simp; omega
  exact ⟨h.own.kept hg (.inr hR2), fun j x hx => (h.row j x hx).kept hg (.inr (.inr (.inr ⟨R, rfl, fun d _ ⟨i, y, hy⟩ e => hR i y (by rw [← e]; exact hy)⟩))), hg.cell h.d0 hne, hg.cell h.d1 hne, (hg.frozen_far ⟨D, 1, none⟩ (lt_of_cell h.d1) hne).trans h.f1, h.bel.grown hg (by have := lt_of_cell h.d0; simp only at this; omega) (fun r e => by cases e; omega)⟩
/-- the cell of a list -/
theorem CO.at {W0 W : World} {D k j : Nat} {S : Int} {uv : Value} {xs : List Value} (h : CO W0 W D k S uv xs) (hj : j < k) : ∃ g gc x, uv = .slice (some ⟨g, 0, none⟩) k gc ∧ W.cell? ⟨g, j, none⟩ = some x ∧ W.frozen? ⟨g, j, none⟩ = false ∧ D < g ∧ g < W.heap.size := by
  obtain ⟨g, gc, hv, _⟩ := h.own.form (by omega)
  subst hv
  have hxl := h.own.1
  have := h.own.cellAt j (by omega)
  rw [List.getElem?_eq_getElem (by omega)] at this
  exact ⟨g, gc, _, rfl, this, h.own.frozenAt j, by have := (h.own.lt g rfl).1; omega, (h.own.lt g rfl).2⟩
theorem CO.LLs {W0 W : World} {D k : Nat} {S : Int} {uv : Value} {xs : List Value} (h : CO W0 W D k S uv xs) : ∃ len f, LLs W.heap.size W uv k len f ∧ ∀ j, j < k → len j ≤ 24 := by
  have hxl := h.own.1
  have key : ∀ j, ∃ (p : Nat × (Nat → Int)), j < k → p.1 ≤ 24 ∧ ∃ x, xs[j]? = some x ∧ SI W.heap.size W x p.1 p.2 := fun j => by
    rcases Nat.lt_or_ge j k with hj | hj
    · have hx : xs[j]? = some xs[j] := List.getElem?_eq_getElem (by omega)
      obtain ⟨a, d, cap, l, f, e, h1, h2, h3⟩ := h.row j _ hx
      exact ⟨(l, f), fun _ => ⟨h1, _, hx, a, d, 0, cap, e, fun hp => ⟨(h2 hp).1, (h2 hp).2.2.1⟩, fun i hi => by rw [Nat.zero_add]; exact h3 i hi⟩⟩
    · exact ⟨(0, fun _ => 0), fun h => by omega⟩
  let p := fun j => Classical.choose (key j)
  have hp : ∀ j, j < k → (p j).1 ≤ 24 ∧ ∃ x, xs[j]? = some x ∧ SI W.heap.size W x (p j).1 (p j).2 := fun j => Classical.choose_spec (key j)
  refine ⟨fun j => (p j).1, fun j => (p j).2, ?_, fun j hj => (hp j hj).1⟩
  rcases h.own.2 with ⟨rfl, rfl⟩ | ⟨g, cap, cur, rfl, _, hgg, _⟩
  · exact ⟨none, 0, 0, 0, rfl, fun h => by omega, fun j hj => by omega⟩
  · refine ⟨_, g, 0, cap, rfl, fun _ => ⟨rfl, (Array.getElem?_eq_some_iff.1 hgg).1⟩, fun j hj => ?_⟩
    obtain ⟨_, x, e, hs⟩ := hp j hj
    refine ⟨x, ?_, hs⟩
    have := h.own.cells (g := g) rfl j x e
    rwa [Addr.add_mid] at this
end Go.Proofs.Ytlckpgahijlmoaa
/- Lists of numbers under way, with their numbers. -/
namespace Go.Proofs.Ytlckpgahijlmoaa
open Go.RowKit Go.Shelf Go.Maps

/-- a list of l numbers in a block of its own -/
def ROWx (W : World) (D l : Nat) (f : Nat → Int) (ob : Option Nat) (x : Value) : Prop :=
  ∃ (a : Option Addr) (d cap : Nat), x = .slice a l cap ∧ (0 < l → a = some ⟨d, 0, none⟩ ∧ D < d ∧ d < W.heap.size ∧ ob ≠ some d) ∧ ∀ i, i < l → W.cell? ⟨d, i, none⟩ = some (.int .i64 (f i))
theorem ROWx.kept {W W' : World} {D : Nat} {ob row : Option Nat} {l : Nat} {f : Nat → Int} {x : Value} (h : ROWx W D l f ob x) (hg : W.grownBy W' row) (hr : row = none ∨ row = ob ∨ (∃ r, row = some r ∧ r ≤ D) ∨ ∃ r, row = some r ∧ ∀ d, d < W.heap.size → (∃ i y, W.cell? ⟨d, i, none⟩ = some y) → d ≠ r) : ROWx W' D l f ob x := by
  obtain ⟨a, d, cap, e, h2, h3⟩ := h
  refine ⟨a, d, cap, e, fun hp => ?_, fun i hi => hg.cell (h3 i hi) (fun q => ?_)⟩
  · obtain ⟨q1, q2, q3, q4⟩ := h2 hp
    exact ⟨q1, q2, Nat.lt_of_lt_of_le q3 hg.size, q4⟩
  · obtain ⟨q1, q2, q3, q4⟩ := h2 (by omega)
    change some d = row at q
    rcases hr with r | r | ⟨r, r1, r2⟩ | ⟨r, r1, r2⟩
    · rw [r] at q; cases q
    · exact q4 (r.symm.trans q.symm)
    · rw [r1] at q; injection q with q; omega
    · rw [r1] at q; injection q with q; exact r2 d q3 ⟨i, _, h3 i hi⟩ q
theorem ROWx.other {W : World} {D : Nat} {ob ob' : Option Nat} {l : Nat} {f : Nat → Int} {x : Value} (h : ROWx W D l f ob x) (ho : ∀ d, d < W.heap.size → ob ≠ some d → ob' ≠ some d) : ROWx W D l f ob' x := by
  obtain ⟨a, d, cap, e, h2, h3⟩ := h
  exact ⟨a, d, cap, e, fun hp => by obtain ⟨q1, q2, q3, q4⟩ := h2 hp; exact ⟨q1, q2, q3, ho d q3 q4⟩, h3⟩
/-- a covering's cells at D, its lists under way -/
structure COx (W0 W : World) (D k : Nat) (S : Int) (L : Nat) (F : Nat → Nat → Int) (uv : Value) (xs : List Value) : Prop where
  own : W.ownsRow (D + 1) 35 1 uv k xs
  row : ∀ (j : Nat) (x : Value), xs[j]? = some x → ROWx W D L (F j) uv.ownBlock x
  d0 : W.cell? ⟨D, 0, none⟩ = some (.int .i64 S)
  d1 : W.cell? ⟨D, 1, none⟩ = some uv
  f1 : W.frozen? ⟨D, 1, none⟩ = false
  bel : Below D W0 W
theorem COx.kept {W0 W W' : World} {D k : Nat} {S : Int} {L : Nat} {F : Nat → Nat → Int} {uv : Value} {xs : List Value} (h : COx W0 W D k S L F uv xs) (hg : W.grownBy W' none) : COx W0 W' D k S L F uv xs :=
  ⟨h.own.kept hg (by cases uv.ownBlock <;> simp), fun j x hx => (h.row j x hx).kept hg (.inl rfl), hg.cell h.d0 (by simp), hg.cell h.d1 (by simp), (hg.frozen_far ⟨D, 1, none⟩ (lt_of_cell h.d1) (by simp)).trans h.f1, h.bel.grown hg (by have := lt_of_cell h.d0; simp only at this; omega) (fun r e => by cases e)⟩
theorem COx.ne {W0 W : World} {D k : Nat} {S : Int} {L : Nat} {F : Nat → Nat → Int} {uv : Value} {xs : List Value} (h : COx W0 W D k S L F uv xs) : some D ≠ uv.ownBlock := fun e => by
  have := (h.own.lt D e.symm).1; omega
theorem COx.push {W0 W W2 w2 : World} {D k g gc : Nat} {S : Int} {L : Nat} {F : Nat → Nat → Int} {uv x : Value} {xs : List Value} (h : COx W0 W D k S L F uv xs) (hg : W.grownBy W2 none) (hx : ∀ ob, (∀ d, ob = some d → d < W.heap.size ∨ d = W2.heap.size) → ROWx W2 D L (F k) ob x)
    (hown : w2.ownsRow (D + 1) 35 1 (.slice (some ⟨g, 0, none⟩) (k + 1) gc) (k + 1) (xs ++ [x])) (hgrow : W2.grownBy w2 uv.ownBlock) (hat : uv.ownBlock = some g ∨ g = W2.heap.size) :
    COx W0 (w2.setCell ⟨D, 1, none⟩ (.slice (some ⟨g, 0, none⟩) (k + 1) gc)) D (k + 1) S L F (.slice (some ⟨g, 0, none⟩) (k + 1) gc) (xs ++ [x]) := by
  have h1 := h.kept hg
  have hDl := lt_of_cell h.d0
  simp only at hDl
  have hxl := h.own.1
  have hs2 := hg.size
  have hsc := grownBy_setCell w2 D 1 (.slice (some ⟨g, 0, none⟩) (k + 1) gc)
  have hob : ∀ j, uv.ownBlock = some j → D + 1 ≤ j ∧ j < W.heap.size := fun j hj => h.own.lt j hj
  have hgD : g ≠ D := fun e => by
    rcases hat with q | q
    · have := (hob g q).1; omega
    · omega
  have sh : ∀ f y, ROWx W2 D L f uv.ownBlock y → ROWx (w2.setCell ⟨D, 1, none⟩ (.slice (some ⟨g, 0, none⟩) (k + 1) gc)) D L f (Value.slice (some ⟨g, 0, none⟩) (k + 1) gc).ownBlock y := fun f y hy => by
    obtain ⟨a, d, cap, e, p2, p3⟩ := hy
    refine ⟨a, d, cap, e, fun hp => ?_, fun i hi => ?_⟩
    · obtain ⟨q1, q2, q3, q4⟩ := p2 hp
      refine ⟨q1, q2, by simp only [World.size_setCell]; exact Nat.lt_of_lt_of_le q3 hgrow.size, ?_⟩
      simp only [Value.ownBlock, ne_eq, Option.some.injEq]
      intro q
      rcases hat with z | z
      · subst q; exact q4 z
      · omega
    · obtain ⟨q1, q2, q3, q4⟩ := p2 (by omega)
      exact hsc.cell (hgrow.cell (p3 i hi) (fun q => q4 q.symm)) (by simp; omega)
  refine ⟨hown.kept hsc (.inr (by simp only [Value.ownBlock, ne_eq, Option.some.injEq]; exact hgD)), fun j y hy => ?_, ?_, World.cell?_setCell_same _ _ _ (hgrow.cell h1.d1 h.ne), ?_, ?_⟩
  · rcases Nat.lt_or_ge j xs.length with hj | hj
    · rw [List.getElem?_append_left hj] at hy
      exact sh _ y (h1.row j y hy)
    · rw [List.getElem?_append_right hj] at hy
      obtain ⟨hyx, hjk⟩ : y = x ∧ j = k := by
        cases hjj : j - xs.length with
        | zero => rw [hjj] at hy; exact ⟨by simpa using hy.symm, by omega⟩
        | succ m => rw [hjj] at hy; simp at hy
      subst hyx hjk
      exact sh _ y (hx uv.ownBlock (fun d hd => .inl (hob d hd).2))
  · exact (World.cell?_setCell_other (a := ⟨D, 1, none⟩) (b := ⟨D, 0, none⟩) _ _ (by simp)).trans (hgrow.cell h1.d0 h.ne)
  · rw [World.frozen?_setCell]; exact (hgrow.frozen_far ⟨D, 1, none⟩ (lt_of_cell h1.d1) h.ne).trans h1.f1
  · exact (h1.bel.grown hgrow (by omega) (fun r e => by have := (hob r e).1; omega)).setCell (by show D ≤ D; omega) _
/-- a list is put in the place of another -/
theorem COx.put {W0 W W2 : World} {D k g gc j : Nat} {S : Int} {L : Nat} {F : Nat → Nat → Int} {f : Nat → Int} {x : Value} {xs : List Value} (h : COx W0 W D k S L F (.slice (some ⟨g, 0, none⟩) k gc) xs) (hg : W.grownBy W2 none) (hx : ROWx W2 D L f (some g) x) :
    COx W0 (W2.setCell ⟨g, j, none⟩ x) D k S L (fun i => if i = j then f else F i) (.slice (some ⟨g, 0, none⟩) k gc) (xs.set j x) := by
  have h1 := h.kept hg
  obtain ⟨s1, s2⟩ := h1.own.stored j x
  have hgD := (h.own.lt g rfl).1
  have hne : some D ≠ some g := by simp; omega
  refine ⟨s1, fun i y hy => ?_, s2.cell h1.d0 hne, s2.cell h1.d1 hne, (s2.frozen_far ⟨D, 1, none⟩ (lt_of_cell h1.d1) hne).trans h1.f1, h1.bel.setCell (by show D ≤ g; omega) _⟩
  refine ROWx.kept ?_ s2 (.inr (.inl rfl))
  by_cases e : j = i
  · subst e
    have hjl : j < (xs.set j x).length := (List.getElem?_eq_some_iff.1 hy).1
    rw [List.length_set] at hjl
    rw [List.getElem?_set_self hjl] at hy
    injection hy with hy; subst hy; rw [if_pos rfl]; exact hx
  · rw [List.getElem?_set_ne e] at hy
    rw [if_neg (fun q => e q.symm)]
    exact h1.row i y hy
theorem COx.keptR {W0 W W' : World} {D k R : Nat} {S : Int} {L : Nat} {F : Nat → Nat → Int} {uv : Value} {xs : List Value} (h : COx W0 W D k S L F uv xs) (hD : D < R) (hR : ∀ i y, W.cell? ⟨R, i, none⟩ ≠ some y) (hR2 : uv.ownBlock ≠ some R) (hg : W.grownBy W' (some R)) : COx W0 W' D k S L F uv xs := by
  have hne : some D ≠ some R := by simp; omega
  exact ⟨h.own.kept hg (.inr hR2), fun j x hx => (h.row j x hx).kept hg (.inr (.inr (.inr ⟨R, rfl, fun d _ ⟨i, y, hy⟩ e => hR i y (by rw [← e]; exact hy)⟩))), hg.cell h.d0 hne, hg.cell h.d1 hne, (hg.frozen_far ⟨D, 1, none⟩ (lt_of_cell h.d1) hne).trans h.f1, h.bel.grown hg (by have := lt_of_cell h.d0; simp only at this; omega) (fun r e => by cases e; omega)⟩
/-- the cell of a list -/
theorem COx.at {W0 W : World} {D k j : Nat} {S : Int} {L : Nat} {F : Nat → Nat → Int} {uv : Value} {xs : List Value} (h : COx W0 W D k S L F uv xs) (hj : j < k) : ∃ g gc x, uv = .slice (some ⟨g, 0, none⟩) k gc ∧ W.cell? ⟨g, j, none⟩ = some x ∧ W.frozen? ⟨g, j, none⟩ = false ∧ D < g ∧ g < W.heap.size := by
  obtain ⟨g, gc, hv, _⟩ := h.own.form (by omega)
  subst hv
  have hxl := h.own.1
  have := h.own.cellAt j (by omega)
  rw [List.getElem?_eq_getElem (by omega)] at this
  exact ⟨g, gc, _, rfl, this, h.own.frozenAt j, by have := (h.own.lt g rfl).1; omega, (h.own.lt g rfl).2⟩
theorem COx.congr {W0 W : World} {D k : Nat} {S : Int} {L : Nat} {F F' : Nat → Nat → Int} {uv : Value} {xs : List Value} (h : COx W0 W D k S L F uv xs) (e : ∀ j, j < k → ∀ i, i < L → F j i = F' j i) : COx W0 W D k S L F' uv xs := by
  have hxl := h.own.1
  refine ⟨h.own, fun j x hx => ?_, h.d0, h.d1, h.f1, h.bel⟩
  have hj : j < xs.length := (List.getElem?_eq_some_iff.1 hx).1
  obtain ⟨a, d, cap, e1, h2, h3⟩ := h.row j x hx
  exact ⟨a, d, cap, e1, h2, fun i hi => by rw [← e j (by omega) i hi]; exact h3 i hi⟩
theorem COx.LLs {W0 W : World} {D k : Nat} {S : Int} {L : Nat} {F : Nat → Nat → Int} {uv : Value} {xs : List Value} (h : COx W0 W D k S L F uv xs) : LLs W.heap.size W uv k (fun _ => L) F := by
  have hxl := h.own.1
  rcases h.own.2 with ⟨rfl, rfl⟩ | ⟨g, cap, cur, rfl, _, hgg, _⟩
  · exact ⟨none, 0, 0, 0, rfl, fun h => by omega, fun j hj => by omega⟩
  · refine ⟨_, g, 0, cap, rfl, fun _ => ⟨rfl, (Array.getElem?_eq_some_iff.1 hgg).1⟩, fun j hj => ?_⟩
    have hx : xs[j]? = some xs[j] := List.getElem?_eq_getElem (by omega)
    obtain ⟨a, d, cap2, e, h2, h3⟩ := h.row j _ hx
    refine ⟨xs[j], ?_, a, d, 0, cap2, e, fun hp => ⟨(h2 hp).1, (h2 hp).2.2.1⟩, fun i hi => by rw [Nat.zero_add]; exact h3 i hi⟩
    have := h.own.cells (g := g) rfl j _ hx
    rwa [Addr.add_mid] at this
theorem COx.LLn {W0 W : World} {D k : Nat} {S : Int} {L : Nat} {F : Nat → Nat → Int} {uv : Value} {xs : List Value} (h : COx W0 W D k S L F uv xs) : LLn (D + 1) W.heap.size W uv k (fun _ => L) F := by
  have hxl := h.own.1
  rcases h.own.2 with ⟨rfl, rfl⟩ | ⟨g, cap, cur, rfl, hge, hgg, _⟩
  · exact ⟨none, 0, 0, 0, rfl, fun h => by omega, fun j hj => by omega⟩
  · refine ⟨_, g, 0, cap, rfl, fun _ => ⟨rfl, hge, (Array.getElem?_eq_some_iff.1 hgg).1⟩, fun j hj => ?_⟩
    have hx : xs[j]? = some xs[j] := List.getElem?_eq_getElem (by omega)
    obtain ⟨a, d, cap2, e, h2, h3⟩ := h.row j _ hx
    refine ⟨a, d, 0, cap2, ?_, fun hp => ⟨(h2 hp).1, (h2 hp).2.1, (h2 hp).2.2.1⟩, fun i hi => by rw [Nat.zero_add]; exact h3 i hi⟩
    have := h.own.cells (g := g) rfl j _ hx
    rw [Addr.add_mid] at this
    rw [← e]; exact this
end Go.Proofs.Ytlckpgahijlmoaa
namespace Go.Proofs.Ytlckpgahijlmoaa
open Go.RowKit Go.Shelf Go.Maps

theorem cnt_surj {r : Nat → Nat} : ∀ {n c : Nat}, c < cnt r n → ∃ k, k < n ∧ r k = k ∧ cnt r k = c
  | 0, c, h => by simp [cnt] at h
  | n + 1, c, h => by
    simp only [cnt] at h
    by_cases e : r n = n
    · rw [if_pos e] at h
      rcases Nat.lt_or_ge c (cnt r n) with q | q
      · obtain ⟨k, h1, h2, h3⟩ := cnt_surj q
        exact ⟨k, by omega, h2, h3⟩
      · exact ⟨n, by omega, e, by omega⟩
    · rw [if_neg e] at h
      obtain ⟨k, h1, h2, h3⟩ := cnt_surj (show c < cnt r n by omega)
      exact ⟨k, by omega, h2, h3⟩
/-- the classes turned so far -/
def TurnI (G : Gl) (left : Nat × Nat → Bool) (F : Nat → Nat → Int) : Prop := ∀ p c, fD G (4 * G.n) p = some c → ∀ i, i < 2 → F c i = if left p then (i : Int) else orF G c i
section
variable {G : Gl} (hok : checkB G = true)
include hok
theorem fD_place {p : Nat × Nat} {c : Nat} (h : fD G (4 * G.n) p = some c) : ∃ j, j < 4 * G.n ∧ p = (j / 4, j % 4) ∧ c = fN G j ∧ isF G j := by
  obtain ⟨j, h1, h2, h3⟩ := fD_some h
  refine ⟨j, h1, h2, h3, ?_⟩
  subst h2
  have := fD_at hok (4 * G.n) (Nat.le_refl _) (j / 4) (j % 4) (by omega)
  rw [show 4 * (j / 4) + j % 4 = j by omega] at this
  by_cases q : isF G j
  · exact q
  · rw [if_neg (fun x => q x.2)] at this; rw [this] at h; cases h
theorem fD_inj {p p' : Nat × Nat} {c : Nat} (h : fD G (4 * G.n) p = some c) (h' : fD G (4 * G.n) p' = some c) : p = p' := by
  obtain ⟨j, a1, a2, a3, a4⟩ := fD_place hok h
  obtain ⟨k, b1, b2, b3, b4⟩ := fD_place hok h'
  rcases fN_eq hok a1 b1 (by rw [← a3, ← b3]) with e | ⟨t, e⟩
  · rw [a2, b2, e]
  · subst e; exact absurd a4 ((isF_tb hok a1 t).1 b4)
theorem fD_surj {c : Nat} (h : c < nF G) : ∃ p, fD G (4 * G.n) p = some c := by
  obtain ⟨k, h1, h2, h3⟩ := cnt_surj h
  refine ⟨(k / 4, k % 4), ?_⟩
  have := fD_at hok (4 * G.n) (Nat.le_refl _) (k / 4) (k % 4) (by omega)
  rw [show 4 * (k / 4) + k % 4 = k by omega, if_pos ⟨h1, (isF_root hok h1).1 h2⟩] at this
  rw [this]; unfold fN; rw [h2, h3]
theorem TurnI.done {left : Nat × Nat → Bool} {F : Nat → Nat → Int} (h : TurnI G left F) (hl : ∀ p, left p = false) : ∀ c, c < nF G → ∀ i, i < 2 → F c i = orF G c i := fun c hc i hi => by
  obtain ⟨p, hp⟩ := fD_surj hok hc
  rw [h p c hp i hi, hl p]; rfl
theorem TurnI.skip {left : Nat × Nat → Bool} {F : Nat → Nat → Int} (h : TurnI G left F) {q f c : Nat} (hD : fD G (4 * G.n) (q, f) = some c) (hn : ¬ (0 ≤ G.tet (4 * q + f) ∧ SignI (G.pm (4 * q + f)) = 1)) : TurnI G (fun x => left x && !decide (x = (q, f))) F := fun p c' hp i hi => by
  rw [h p c' hp i hi]
  by_cases e : p = (q, f)
  · subst e
    rw [hD] at hp; injection hp with hp; subst hp
    have : orF G c i = i := by
      obtain ⟨j, a1, a2, a3, a4⟩ := fD_place hok hD
      obtain ⟨rfl, rfl⟩ : q = j / 4 ∧ f = j % 4 := by simpa using a2
      rw [show 4 * (j / 4) + j % 4 = j by omega, SignI_R] at hn
      unfold orF
      rw [if_neg (by rw [a3, tc_at hok a1 a4]; exact hn)]
    simp [this]
  · simp [e]
theorem TurnI.turn {left : Nat × Nat → Bool} {F : Nat → Nat → Int} (h : TurnI G left F) {q f c : Nat} (hD : fD G (4 * G.n) (q, f) = some c) (hn : 0 ≤ G.tet (4 * q + f) ∧ SignI (G.pm (4 * q + f)) = 1) : TurnI G (fun x => left x && !decide (x = (q, f))) (fun i => if i = c then (fun i => if i = 0 then 1 else 0) else F i) := fun p c' hp i hi => by
  by_cases e : p = (q, f)
  · subst e
    rw [hD] at hp; injection hp with hp; subst hp
    have : orF G c i = 1 - i := by
      obtain ⟨j, a1, a2, a3, a4⟩ := fD_place hok hD
      obtain ⟨rfl, rfl⟩ : q = j / 4 ∧ f = j % 4 := by simpa using a2
      rw [show 4 * (j / 4) + j % 4 = j by omega, SignI_R] at hn
      unfold orF
      rw [if_pos (by rw [a3, tc_at hok a1 a4]; exact hn)]
    simp only [if_true, decide_true, Bool.not_true, Bool.and_false, this]
    rcases (show i = 0 ∨ i = 1 by omega) with rfl | rfl <;> simp
  · have hc : c' ≠ c := fun ec => e (fD_inj hok (by rw [← ec]; exact hp) hD)
    simp only [hc, if_false, e, decide_false, Bool.not_false, Bool.and_true]
    exact h p c' hp i hi
end
end Go.Proofs.Ytlckpgahijlmoaa
