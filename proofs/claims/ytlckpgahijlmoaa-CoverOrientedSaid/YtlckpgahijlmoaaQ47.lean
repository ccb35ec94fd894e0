/- Coverings: inverses of permutations, signs, the covering of two sheets. Plain laws. -/
import Derived.Test.YtlckpgahijlmoaaQ42
import Derived.Test.YtlckpgahijlmoaaQ45
namespace Go.Proofs.Ytlckpgahijlmoaa

theorem surj_of_inj : ∀ (n : Nat) (f : Nat → Nat), (∀ i, i < n → f i < n) → (∀ i j, i < n → j < n → f i = f j → i = j) → ∀ j, j < n → ∃ i, i < n ∧ f i = j
  | 0, _, _, _, j, hj => by omega
  | n + 1, f, hr, hi, j, hj => by
    have hlt : ∀ i, i < n → f i ≠ f n := fun i h e => by have := hi i n (by omega) (by omega) e; omega
    have ih := surj_of_inj n (fun i => if f i = n then f n else f i) (fun i h => by
      have h1 := hr i (by omega)
      have h2 := hr n (by omega)
      have h3 := hlt i h
      by_cases e : f i = n
      · simp only [e, if_true]; omega
      · simp only [e, if_false]; omega) (fun a b ha hb e => by
      have h1 := hlt a ha
      have h2 := hlt b hb
      by_cases ea : f a = n <;> by_cases eb : f b = n
      · exact hi a b (by omega) (by omega) (by omega)
      · simp only [ea, eb, if_true, if_false] at e; omega
      · simp only [ea, eb, if_true, if_false] at e; omega
      · simp only [ea, eb, if_false] at e; exact hi a b (by omega) (by omega) e)
    by_cases e1 : j = f n
    · exact ⟨n, by omega, e1.symm⟩
    · by_cases e2 : j = n
      · have hv : f n < n := by have := hr n (by omega); omega
        obtain ⟨i, h1, h2⟩ := ih (f n) hv
        refine ⟨i, by omega, ?_⟩
        by_cases e : f i = n
        · omega
        · simp only [e, if_false] at h2; exact absurd h2 (hlt i h1)
      · obtain ⟨i, h1, h2⟩ := ih j (by omega)
        refine ⟨i, by omega, ?_⟩
        by_cases e : f i = n
        · simp only [e, if_true] at h2; omega
        · simp only [e, if_false] at h2; exact h2
theorem permB_inj {l : Nat} {f : Nat → Int} {n : Int} (h : permB l f n = true) : ∀ i j, i < l → j < l → f i = f j → i = j := by
  simp only [permB, Bool.and_eq_true, permP, List.all_eq_true, List.mem_range, Bool.not_eq_true', List.any_eq_false, beq_iff_eq] at h
  intro i j hi hj e
  rcases Nat.lt_trichotomy i j with q | q | q
  · exact absurd e ((h.1 j hj).2 i q)
  · exact q
  · exact absurd e.symm ((h.1 i hi).2 j q)
theorem invP_at {f : Nat → Int} {l : Nat} (hi : ∀ i j, i < l → j < l → f i = f j → i = j) {i x : Nat} (h : i < l) (hx : f i = x) : invP f l x = i := by
  have key : ∀ k, k ≤ l → i < k → invP f k x = i := fun k => by
    induction k with
    | zero => intro _ h; omega
    | succ k ih =>
      intro hk h1
      show (if (x : Int) = f k then (k : Int) else invP f k x) = i
      by_cases e : (x : Int) = f k
      · rw [if_pos e, hi i k h (by omega) (hx.trans e)]
      · rw [if_neg e]
        exact ih (by omega) (by
          rcases Nat.lt_or_ge i k with q | q
          · exact q
          · have : i = k := by omega
            subst this; exact absurd hx.symm e)
  exact key l (Nat.le_refl _) h
theorem sh_of {G : Gl} {sh : Nat} {len : Nat → Nat} {f : Nat → Nat → Int} (h : ∀ k, k < nF G → permB (len k) (f k) sh = true) : Sh G sh f (fun k => invP (f k) sh) := by
  have hl : ∀ k, k < nF G → len k = sh := fun k hk => by have := (permB_range (h k hk)).1; omega
  have hr : ∀ k i, k < nF G → i < sh → ∃ j : Nat, f k i = j ∧ j < sh := fun k i hk hi => by
    have := (permB_range (h k hk)).2 i (by rw [hl k hk]; exact hi)
    exact ⟨(f k i).toNat, by omega, by omega⟩
  have hin : ∀ k, k < nF G → ∀ i j, i < sh → j < sh → f k i = f k j → i = j := fun k hk i j hi hj e => permB_inj (h k hk) i j (by rw [hl k hk]; exact hi) (by rw [hl k hk]; exact hj) e
  have hs : ∀ k i, k < nF G → i < sh → ∃ j, j < sh ∧ f k j = i := fun k i hk hi => by
    obtain ⟨j, h1, h2⟩ := surj_of_inj sh (fun i => (f k i).toNat) (fun i hi => by obtain ⟨j, h1, h2⟩ := hr k i hk hi; show (f k i).toNat < sh; rw [h1]; simpa using h2)
      (fun a b ha hb e => hin k hk a b ha hb (by
        obtain ⟨j, h1, -⟩ := hr k a hk ha
        obtain ⟨m, h2, -⟩ := hr k b hk hb
        simp only [h1, h2, Int.toNat_natCast] at e
        rw [h1, h2, e])) i hi
    obtain ⟨m, h3, -⟩ := hr k j hk h1
    refine ⟨j, h1, ?_⟩
    simp only [h3, Int.toNat_natCast] at h2
    rw [h3, h2]
  refine ⟨hr, fun k i hk hi => ?_, fun k i j hk hi e => invP_at (hin k hk) hi e, fun k i j hk hi e => ?_⟩
  · obtain ⟨j, h1, h2⟩ := hs k i hk hi
    exact ⟨j, invP_at (hin k hk) h1 h2, h1⟩
  · obtain ⟨m, h1, h2⟩ := hs k i hk hi
    have := invP_at (hin k hk) h1 h2
    rw [this] at e
    have : m = j := by omega
    subst this; exact h2
theorem CovOK.sh {G : Gl} {sh : Int} {np : Nat} {len : Nat → Nat} {fp : Nat → Nat → Int} (h : CovOK G sh np len fp) : Sh G sh.toNat fp (fun k => invP (fp k) sh.toNat) :=
  sh_of (len := len) fun k hk => by
    have := h.perms k (by rw [h.num]; exact hk)
    have h1 := h.lo
    rw [show ((sh.toNat : Nat) : Int) = sh by omega]; exact this
theorem CovOK.valid {G : Gl} {sh : Int} {np : Nat} {len : Nat → Nat} {fp : Nat → Nat → Int} (hok : checkB G = true) (h : CovOK G sh np len fp) : checkB (covG G fp (fun k => invP (fp k) sh.toNat) sh.toNat) = true :=
  cov_valid hok h.sh h.small.2

/-- the covering by identities -/
def idF (_ i : Nat) : Int := i
theorem permB_id (n : Nat) : permB n (fun i => (i : Int)) n = true := by
  simp only [permB, Bool.and_eq_true, permP, List.all_eq_true, List.mem_range, Bool.not_eq_true', List.any_eq_false, beq_iff_eq, decide_eq_true_eq]
  exact ⟨fun i hi => ⟨⟨by omega, by omega⟩, fun j hj => by omega⟩, trivial⟩
theorem invP_id {l i : Nat} (hi : i < l) : invP (fun i => (i : Int)) l i = i := invP_at (fun i j _ _ e => by omega) hi rfl
theorem shA_step {G : Gl} {f g : Nat → Nat → Int} {s u : RS} {m k i : Nat} (h1 : itr G 2 s m = some s) (hk : k < m) (hu : itr G 2 s k = some u) : shA G f g (pth G 2 s m) i (k + 1) = (crF G f g u.1 (rp u 2) (shA G f g (pth G 2 s m) i k)).toNat := by
  have : (pth G 2 s m)[k]? = some u := (pth_get (ring_all h1) k hk).trans hu
  simp only [shA, this]
theorem id_ok {G : Gl} (hok : checkB G = true) {sh : Nat} (h1 : 1 ≤ sh) (h2 : sh ≤ 24) (h3 : sh * G.n ≤ 1000) : CovOK G sh (nF G) (fun _ => sh) idF := by
  refine ⟨by omega, by omega, by have : ((sh * G.n : Nat) : Int) = sh * G.n := by push_cast; rfl
                                 omega, rfl, fun k _ => permB_id sh, fun _ _ _ _ i _ => rfl, fun q hq hf m hm hs _ i hi => ?_⟩
  have hi2 : i < sh := by simpa using hi
  have key : ∀ k, k ≤ m → shA G idF (fun k => invP (idF k) (sh : Int).toNat) (pth G 2 (frS (q / 6) (q % 6)) m) i k = i := fun k => by
    induction k with
    | zero => intro _; rfl
    | succ k ih =>
      intro hk
      obtain ⟨u, hu⟩ : ∃ u, itr G 2 (frS (q / 6) (q % 6)) k = some u := Option.ne_none_iff_exists'.1 (ring_all hs k (by omega))
      have hR := itr_ok hok (frS_ok (t := q / 6) (e := q % 6) (n := G.n) (by omega) (by omega)) hu
      rw [shA_step hs (by omega) hu, ih (by omega), crF_at hok _ _ hR.t (rp_lt hR 2)]
      split
      · simp [idF]
      · rw [show (sh : Int).toNat = sh by simp]
        show (invP (fun i => (i : Int)) sh i).toNat = i
        rw [invP_id hi2]; simp
  exact key m (Nat.le_refl _)

/-- the sign of four numbers -/
def sel (a b c d i : Nat) : Nat := if i = 0 then a else if i = 1 then b else if i = 2 then c else d
def sg4 (a b c d : Nat) : Int := signF (fun i => (sel a b c d i : Nat))
theorem signF_congr {p q : Nat → Int} (h : ∀ i, i < 4 → p i = q i) : signF p = signF q := by
  have h0 := h 0 (by omega)
  have h1 := h 1 (by omega)
  have h2 := h 2 (by omega)
  have h3 := h 3 (by omega)
  simp only [signF, sgI, sgJ, lp, h0, h1, h2, h3]
def dist4 (a b c d : Nat) : Prop := a ≠ b ∧ a ≠ c ∧ a ≠ d ∧ b ≠ c ∧ b ≠ d ∧ c ≠ d
instance (a b c d : Nat) : Decidable (dist4 a b c d) := by unfold dist4; infer_instance
set_option maxRecDepth 100000 in
theorem sg_step_dec : ∀ p0 p1 p2 p3 : Fin 4, dist4 p0 p1 p2 p3 → ∀ a b c d : Fin 4, dist4 a b c d →
    sg4 (sel p0 p1 p2 p3 a) (sel p0 p1 p2 p3 b) (sel p0 p1 p2 p3 d) (sel p0 p1 p2 p3 c) = - sg4 p0 p1 p2 p3 * sg4 a b c d := by decide +kernel
set_option maxRecDepth 100000 in
theorem sg_inv_dec : ∀ p0 p1 p2 p3 : Fin 4, dist4 p0 p1 p2 p3 → ∀ a b c d : Fin 4, sel a b c d p0 = 0 → sel a b c d p1 = 1 → sel a b c d p2 = 2 → sel a b c d p3 = 3 → sg4 a b c d = sg4 p0 p1 p2 p3 := by decide +kernel
section
variable {G : Gl} (hok : checkB G = true)
include hok
theorem P_sel {k : Nat} {i : Nat} (hi : i < 4) : G.P k i = sel (G.P k 0) (G.P k 1) (G.P k 2) (G.P k 3) i := by
  have _ := hok
  rcases (show i = 0 ∨ i = 1 ∨ i = 2 ∨ i = 3 by omega) with rfl | rfl | rfl | rfl <;> rfl
theorem SignR_at {k : Nat} (hk : k < 4 * G.n) (ht : ¬ G.tet k < 0) : SignR (G.pm k) = sg4 (G.P k 0) (G.P k 1) (G.P k 2) (G.P k 3) ∧ dist4 (G.P k 0) (G.P k 1) (G.P k 2) (G.P k 3) ∧ ∀ i, i < 4 → G.P k i < 4 := by
  obtain ⟨-, hv, -, -⟩ := ok_parts hok hk ht
  obtain ⟨-, -, hp⟩ := ok_face hok hk ht
  have hin := ok_inj hok hk ht
  have hv2 : validR (G.pm k) = true := by rw [valid_same]; exact hv
  refine ⟨?_, ⟨hin 0 1 (by omega) (by omega) (by omega), hin 0 2 (by omega) (by omega) (by omega), hin 0 3 (by omega) (by omega) (by omega), hin 1 2 (by omega) (by omega) (by omega), hin 1 3 (by omega) (by omega) (by omega), hin 2 3 (by omega) (by omega) (by omega)⟩, fun i hi => (hp i hi).2⟩
  rw [SignR, if_pos hv2, sg4]
  exact signF_congr fun i hi => by rw [(hp i hi).1, P_sel hok hi]
theorem SignR_pm {k : Nat} (hk : k < 4 * G.n) (ht : ¬ G.tet k < 0) : SignR (G.pm k) = 1 ∨ SignR (G.pm k) = -1 := by
  rw [(SignR_at hok hk ht).1]; exact sg_pm
theorem SignR_tb {k : Nat} (hk : k < 4 * G.n) (ht : ¬ G.tet k < 0) : SignR (G.pm (tb G k)) = SignR (G.pm k) := by
  obtain ⟨f1, f2, -⟩ := tb_facts hok hk ht
  obtain ⟨-, -, -, b4⟩ := ok_back hok hk ht
  obtain ⟨e1, d1, l1⟩ := SignR_at hok hk ht
  obtain ⟨e2, d2, l2⟩ := SignR_at hok f1 f2
  rw [e1, e2]
  have key : ∀ i, i < 4 → sel (G.P (tb G k) 0) (G.P (tb G k) 1) (G.P (tb G k) 2) (G.P (tb G k) 3) (G.P k i) = i := fun i hi => by
    rw [← P_sel hok (l1 i hi)]; exact b4 i hi
  exact sg_inv_dec ⟨_, l1 0 (by omega)⟩ ⟨_, l1 1 (by omega)⟩ ⟨_, l1 2 (by omega)⟩ ⟨_, l1 3 (by omega)⟩ d1 ⟨_, l2 0 (by omega)⟩ ⟨_, l2 1 (by omega)⟩ ⟨_, l2 2 (by omega)⟩ ⟨_, l2 3 (by omega)⟩ (key 0 (by omega)) (key 1 (by omega)) (key 2 (by omega)) (key 3 (by omega))
/-- the sign of a frame turns against the sign of the face -/
def sgS (s : RS) : Int := sg4 s.2.1 s.2.2.1 s.2.2.2.1 s.2.2.2.2
theorem sg_stp {s u : RS} (hs : Rok G.n s) (h : stp G 2 s = some u) : ¬ G.tet (4 * s.1 + rp s 2) < 0 ∧ sgS u = -SignR (G.pm (4 * s.1 + rp s 2)) * sgS s := by
  have hl := rp_lt hs 2
  have ht := hs.t
  unfold stp at h
  split at h
  · cases h
  · next hn =>
    refine ⟨hn, ?_⟩
    injection h with h
    subst h
    obtain ⟨e1, d1, l1⟩ := SignR_at hok (show 4 * s.1 + rp s 2 < 4 * G.n by omega) hn
    obtain ⟨a, b, c, d⟩ := hs.l
    rw [e1]
    simp only [sgS]
    rw [P_sel hok a, P_sel hok b, P_sel hok c, P_sel hok d]
    exact sg_step_dec ⟨_, l1 0 (by omega)⟩ ⟨_, l1 1 (by omega)⟩ ⟨_, l1 2 (by omega)⟩ ⟨_, l1 3 (by omega)⟩ d1 ⟨_, a⟩ ⟨_, b⟩ ⟨_, c⟩ ⟨_, d⟩ hs.d
end
/-- the class of triangles is turned -/
def tcB (G : Gl) (c : Nat) : Bool := (List.range (4 * G.n)).any fun j => decide (isF G j) && fN G j == c && decide (0 ≤ G.tet j) && SignI (G.pm j) == 1
/-- the covering of two sheets -/
def orF (G : Gl) (c i : Nat) : Int := if tcB G c then 1 - i else i
theorem SignI_R (p : Nat → Int) : SignI p = SignR p := by unfold SignI SignR; rw [valid_same]
section
variable {G : Gl} (hok : checkB G = true)
include hok
theorem tc_at {k : Nat} (hk : k < 4 * G.n) (hf : isF G k) : tcB G (fN G k) = true ↔ (0 ≤ G.tet k ∧ SignR (G.pm k) = 1) := by
  simp only [tcB, List.any_eq_true, List.mem_range, Bool.and_eq_true, decide_eq_true_eq, beq_iff_eq, SignI_R]
  constructor
  · rintro ⟨j, hj, ⟨⟨h1, h2⟩, h3⟩, h4⟩
    rcases fN_eq hok hk hj h2.symm with e | ⟨t, e⟩
    · subst e; exact ⟨h3, h4⟩
    · subst e; exact absurd hf ((isF_tb hok hk t).1 h1)
  · rintro ⟨h1, h2⟩
    exact ⟨k, hk, ⟨⟨hf, rfl⟩, h1⟩, h2⟩
theorem tc_face {k : Nat} (hk : k < 4 * G.n) (ht : ¬ G.tet k < 0) : tcB G (fN G k) = true ↔ SignR (G.pm k) = 1 := by
  by_cases c : isF G k
  · rw [tc_at hok hk c]; exact ⟨fun h => h.2, fun h => ⟨by omega, h⟩⟩
  · obtain ⟨f1, f2, -⟩ := tb_facts hok hk ht
    rw [← fN_tb hok hk ht, tc_at hok f1 ((isF_tb hok hk ht).2 c), SignR_tb hok hk ht]
    exact ⟨fun h => h.2, fun h => ⟨by omega, h⟩⟩
omit hok in
theorem permB_or (c : Nat) : permB 2 (orF G c) 2 = true := by
  unfold orF
  cases tcB G c <;> decide
omit hok in
theorem invP_or (c i : Nat) (hi : i < 2) : invP (orF G c) 2 i = orF G c i := by
  have key : ∀ b : Bool, invP (fun i => if b then 1 - (i : Int) else i) 2 i = if b then 1 - (i : Int) else i := fun b => by
    rcases (show i = 0 ∨ i = 1 by omega) with rfl | rfl <;> cases b <;> decide
  exact key (tcB G c)
/-- crossing a face -/
theorem crF_or {t fc i : Nat} (ht : t < G.n) (hf : fc < 4) (hi : i < 2) (hn : ¬ G.tet (4 * t + fc) < 0) : crF G (orF G) (fun k => invP (orF G k) 2) t fc i = if SignR (G.pm (4 * t + fc)) = 1 then 1 - (i : Int) else i := by
  rw [crF_at hok _ _ ht hf]
  have : orF G (fN G (4 * t + fc)) i = if SignR (G.pm (4 * t + fc)) = 1 then 1 - (i : Int) else i := by
    unfold orF
    simp only [tc_face hok (show 4 * t + fc < 4 * G.n by omega) hn]
  split
  · exact this
  · show invP (orF G _) 2 i = _
    rw [invP_or _ _ hi]; exact this
theorem or_ok (h5 : G.n ≤ 500) : CovOK G 2 (nF G) (fun _ => 2) (orF G) := by
  refine ⟨by omega, by omega, by omega, rfl, fun k _ => permB_or k, fun t f hs ht i hi => ?_, fun q hq hf m hm hs _ i hi => ?_⟩
  · cases hD : fD G (4 * G.n) (t, f) with
    | none => rw [hD] at hs; cases hs
    | some c =>
      obtain ⟨j, hj, he, -⟩ := fD_some hD
      obtain ⟨rfl, rfl⟩ : t = j / 4 ∧ f = j % 4 := by simpa using he
      rw [show 4 * (j / 4) + j % 4 = j by omega] at ht ⊢
      unfold orF
      rw [if_neg]
      intro h
      have := (tc_at hok hj (.inl ht)).1 h
      omega
  · have hi2 : i < 2 := by simpa using hi
    have hpm : ∀ s : RS, sgS s = 1 ∨ sgS s = -1 := fun s => sg_pm
    have key : ∀ k, k ≤ m → ∀ u, itr G 2 (frS (q / 6) (q % 6)) k = some u → shA G (orF G) (fun k => invP (orF G k) (2 : Int).toNat) (pth G 2 (frS (q / 6) (q % 6)) m) i k = if sgS u = sgS (frS (q / 6) (q % 6)) then i else 1 - i := fun k => by
      induction k with
      | zero => intro _ u hu; rw [itr] at hu; injection hu with hu; subst hu; rw [if_pos rfl]; rfl
      | succ k ih =>
        intro hk u hu
        obtain ⟨x, hx⟩ : ∃ x, itr G 2 (frS (q / 6) (q % 6)) k = some x := Option.ne_none_iff_exists'.1 (ring_all hs k (by omega))
        have hR := itr_ok hok (frS_ok (t := q / 6) (e := q % 6) (n := G.n) (by omega) (by omega)) hx
        have hst : stp G 2 x = some u := by rw [itr, hx] at hu; exact hu
        obtain ⟨hn, hsg⟩ := sg_stp hok hR hst
        have ihx := ih (by omega) x hx
        have hlt : shA G (orF G) (fun k => invP (orF G k) (2 : Int).toNat) (pth G 2 (frS (q / 6) (q % 6)) m) i k < 2 := by rw [ihx]; split <;> omega
        rw [shA_step hs (by omega) hx]
        show (crF G (orF G) (fun k => invP (orF G k) 2) x.1 (rp x 2) _).toNat = _
        rw [crF_or hok hR.t (rp_lt hR 2) hlt hn, hsg, ihx]
        have hrr := rp_lt hR 2
        have hxt := hR.t
        rcases SignR_pm hok (show 4 * x.1 + rp x 2 < 4 * G.n by omega) hn with e | e <;> rcases hpm x with e2 | e2 <;> rcases hpm (frS (q / 6) (q % 6)) with e3 | e3 <;> rw [e, e2, e3] <;> simp <;> omega
    have := key m (Nat.le_refl _) _ hs
    rw [if_pos rfl] at this
    exact this
end
/-- two gluings with the same faces -/
theorem GlAt.congr {B : Nat} {W : World} {v : Value} {G H : Gl} (h : GlAt B W v G) (hn : G.n = H.n) (ht : ∀ k, k < 4 * G.n → G.tet k = H.tet k) (hp : ∀ k, k < 4 * G.n → ∀ i, i < 4 → G.pm k i = H.pm k i) : GlAt B W v H := by
  obtain ⟨a, b, off, cap, e, hB, hc⟩ := h
  rw [hn] at e hB hc ht hp
  exact ⟨a, b, off, cap, e, hB, fun k hk => ⟨by rw [← ht k hk]; exact (hc k hk).1, fun i hi => by rw [← hp k hk i hi]; exact (hc k hk).2 i hi⟩⟩
end Go.Proofs.Ytlckpgahijlmoaa
