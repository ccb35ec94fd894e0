/- cover's Compose: the lists under way, with their numbers. -/
import Derived.Test.YtlckpgahijlmoaaQ47
import Derived.Test.YtlckpgahijlmoaaQ46
import Derived.Test.YtlckpgahijlmoaaQ36
import Derived.Test.YtlckpgahijlmoaaQ39
/- R11.Make. -/
namespace Go.Proofs.Ytlckpgahijlmoaa
open Go.RowKit Go.Shelf

section
variable (G : Gl) (v : Value) (S : Int) (pv : Value) (np : Nat) (len : Nat → Nat) (fp : Nat → Nat → Int) (w : World) (hG : GlAt w.heap.size w v G) (hm : G.n ≤ 9223372036854775807) (hpv : LLc w.heap.size w pv np len fp) (hlen : ∀ k, k < np → len k < 4611686018427387904) (hnp : np < 4611686018427387904)
include hG hm hpv hlen hnp
end
end Go.Proofs.Ytlckpgahijlmoaa
/- The composition of two coverings: its permutations, its gluing, its rings. Plain laws. -/
namespace Go.Proofs.Ytlckpgahijlmoaa

theorem permB_of {l : Nat} {f : Nat → Int} (h1 : ∀ i, i < l → ∃ j : Nat, f i = j ∧ j < l) (h2 : ∀ i j, i < l → j < l → f i = f j → i = j) : permB l f l = true := by
  simp only [permB, Bool.and_eq_true, permP, List.all_eq_true, List.mem_range, Bool.not_eq_true', List.any_eq_false, beq_iff_eq, decide_eq_true_eq]
  refine ⟨fun i hi => ⟨?_, fun j hj e => ?_⟩, trivial⟩
  · obtain ⟨j, e, hj⟩ := h1 i hi
    rw [e]; exact ⟨by omega, by omega⟩
  · have := h2 j i (by omega) hi e; omega
theorem mix_lt {u s t l : Nat} (hu : u < t) (hl : l < s) : u * s + l < s * t := by
  have : (u + 1) * s ≤ t * s := Nat.mul_le_mul_right _ hu
  rw [Nat.succ_mul] at this
  rw [Nat.mul_comm s t]; omega
theorem mix_mod' {u s l : Nat} (hl : l < s) : (u * s + l) % s = l ∧ (u * s + l) / s = u := by
  rw [Nat.mul_comm, Nat.mul_add_mod, Nat.mod_eq_of_lt hl, Nat.mul_add_div (by omega), Nat.div_eq_of_lt hl]
  exact ⟨rfl, rfl⟩
theorem mix_split {i s t : Nat} (h : i < s * t) : i % s < s ∧ i / s < t ∧ i / s * s + i % s = i := by
  have hs : 0 < s := by
    rcases Nat.eq_zero_or_pos s with e | e
    · rw [e] at h; simp at h
    · exact e
  exact ⟨Nat.mod_lt _ hs, Nat.div_lt_of_lt_mul h, by rw [Nat.mul_comm]; exact Nat.div_add_mod i s⟩

/-- across the face k, from a sheet of the covering of the covering -/
def cmp (G : Gl) (f g : Nat → Nat → Int) (s : Nat) (f2 g2 : Nat → Nat → Int) (k i : Nat) : Int :=
  if G.tet k < 0 then i else crF (covG G f g s) f2 g2 (i % s * G.n + k / 4) (k % 4) (i / s) * s + crF G f g (k / 4) (k % 4) (i % s)
/-- the permutations of the composition -/
noncomputable def eF (G : Gl) (f g : Nat → Nat → Int) (s : Nat) (f2 g2 : Nat → Nat → Int) (c i : Nat) : Int :=
  open Classical in if h : ∃ j, j < 4 * G.n ∧ isF G j ∧ fN G j = c then cmp G f g s f2 g2 (Classical.choose h) i else 0
section
variable {G : Gl} (hok : checkB G = true)
include hok
theorem first_uniq {j k : Nat} (hj : j < 4 * G.n) (hk : k < 4 * G.n) (h1 : isF G j) (h2 : isF G k) (e : fN G j = fN G k) : j = k := by
  rcases fN_eq hok hj hk e with h | ⟨t, h⟩
  · exact h
  · subst h; exact absurd h1 ((isF_tb hok hj t).1 h2)
theorem eF_at {f g : Nat → Nat → Int} {s : Nat} {f2 g2 : Nat → Nat → Int} {j : Nat} (hj : j < 4 * G.n) (hf : isF G j) (i : Nat) : eF G f g s f2 g2 (fN G j) i = cmp G f g s f2 g2 j i := by
  have h : ∃ m, m < 4 * G.n ∧ isF G m ∧ fN G m = fN G j := ⟨j, hj, hf, rfl⟩
  unfold eF
  rw [dif_pos h]
  obtain ⟨a, b, c⟩ := Classical.choose_spec h
  rw [first_uniq hok a hj b hf c]
theorem first_of {c : Nat} (h : c < nF G) : ∃ j, j < 4 * G.n ∧ isF G j ∧ fN G j = c := by
  have hc : c < cnt (clsAll G).r4 (4 * G.n) := h
  have : ∀ n, n ≤ 4 * G.n → c < cnt (clsAll G).r4 n → ∃ k, k < n ∧ (clsAll G).r4 k = k ∧ cnt (clsAll G).r4 k = c := fun n => by
    induction n with
    | zero => intro _ h; simp [cnt] at h
    | succ n ih =>
      intro hn h
      simp only [cnt] at h
      by_cases e : (clsAll G).r4 n = n
      · rw [if_pos e] at h
        rcases Nat.lt_or_ge c (cnt (clsAll G).r4 n) with q | q
        · obtain ⟨k, h1, h2, h3⟩ := ih (by omega) q
          exact ⟨k, by omega, h2, h3⟩
        · exact ⟨n, by omega, e, by omega⟩
      · rw [if_neg e] at h
        obtain ⟨k, h1, h2, h3⟩ := ih (by omega) (by omega)
        exact ⟨k, by omega, h2, h3⟩
  obtain ⟨k, h1, h2, h3⟩ := this _ (Nat.le_refl _) hc
  exact ⟨k, h1, (isF_root hok h1).1 h2, by unfold fN; rw [h2, h3]⟩
end
section
variable {G : Gl} {f g : Nat → Nat → Int} {s : Nat} {f2 g2 : Nat → Nat → Int} {t : Nat} (hok : checkB G = true) (hS : Sh G s f g) (hsz : s * G.n ≤ 1000) (hT : Sh (covG G f g s) t f2 g2)
include hok hS hsz hT
/-- across a face and back -/
theorem cmp_step {k low up : Nat} (hk : k < 4 * G.n) (ht : ¬ G.tet k < 0) (hl : low < s) (hu : up < t) : ∃ l' u' : Nat, l' < s ∧ u' < t ∧ crF G f g (k / 4) (k % 4) low = l' ∧ crF (covG G f g s) f2 g2 (low * G.n + k / 4) (k % 4) up = u' ∧
    cmp G f g s f2 g2 k (up * s + low) = ((u' * s + l' : Nat) : Int) ∧ cmp G f g s f2 g2 (tb G k) (u' * s + l') = ((up * s + low : Nat) : Int) := by
  have hokH := cov_valid hok hS hsz
  obtain ⟨hp, -, hpos⟩ := cov_face hok hS hl hk
  obtain ⟨l', h1, h2, h3, h4, h5⟩ := hpos ht
  obtain ⟨f1, ft, f3, f4, f5, f6, f7⟩ := tb_facts hok hk ht
  have em : (4 * G.n * low + k) % 4 = k % 4 := by rw [Nat.mul_assoc]; omega
  have ed : (4 * G.n * low + k) / 4 = low * G.n + k / 4 := by rw [Nat.mul_assoc, Nat.mul_comm low]; omega
  have hK : 4 * G.n * low + k < 4 * (covG G f g s).n := by
    have := mix_lt (u := low) (s := G.n) (t := s) (l := k / 4) hl (by omega)
    show _ < 4 * (s * G.n)
    rw [Nat.mul_comm s]
    rw [Nat.mul_assoc, Nat.mul_comm G.n low]; omega
  obtain ⟨u', g1, gl, g2'⟩ := cr_back hokH hT hK (by rw [h3]; omega) hu
  rw [em, ed] at g1
  have em2 : (4 * G.n * l' + tb G k) % 4 = tb G k % 4 := by rw [Nat.mul_assoc]; omega
  have ed2 : (4 * G.n * l' + tb G k) / 4 = l' * G.n + tb G k / 4 := by rw [Nat.mul_assoc, Nat.mul_comm l']; omega
  rw [h4, em2, ed2] at g2'
  refine ⟨l', u', h1, gl, h2, g1, ?_, ?_⟩
  · obtain ⟨m1, m2⟩ := mix_mod' (u := up) hl
    unfold cmp
    rw [if_neg ht, m1, m2, g1, h2]; push_cast; rfl
  · obtain ⟨m1, m2⟩ := mix_mod' (u := u') h1
    unfold cmp
    rw [if_neg ft, m1, m2, g2', h5]; push_cast; rfl
theorem cmp_range {k i : Nat} (hk : k < 4 * G.n) (hi : i < s * t) : ∃ j : Nat, cmp G f g s f2 g2 k i = j ∧ j < s * t := by
  by_cases ht : G.tet k < 0
  · exact ⟨i, by unfold cmp; rw [if_pos ht], hi⟩
  · obtain ⟨h1, h2, h3⟩ := mix_split hi
    obtain ⟨l', u', a, b, -, -, c, -⟩ := cmp_step hok hS hsz hT hk ht h1 h2
    rw [h3] at c
    exact ⟨_, c, mix_lt b a⟩
theorem cmp_back {k i : Nat} (hk : k < 4 * G.n) (ht : ¬ G.tet k < 0) (hi : i < s * t) : ∃ j : Nat, cmp G f g s f2 g2 k i = j ∧ j < s * t ∧ cmp G f g s f2 g2 (tb G k) j = i := by
  obtain ⟨h1, h2, h3⟩ := mix_split hi
  obtain ⟨l', u', a, b, -, -, c, d⟩ := cmp_step hok hS hsz hT hk ht h1 h2
  rw [h3] at c d
  exact ⟨_, c, mix_lt b a, d⟩
theorem cmp_inj {k i j : Nat} (hk : k < 4 * G.n) (hi : i < s * t) (hj : j < s * t) (e : cmp G f g s f2 g2 k i = cmp G f g s f2 g2 k j) : i = j := by
  by_cases ht : G.tet k < 0
  · unfold cmp at e; rw [if_pos ht, if_pos ht] at e; omega
  · obtain ⟨a, a1, a2, a3⟩ := cmp_back hok hS hsz hT hk ht hi
    obtain ⟨b, b1, b2, b3⟩ := cmp_back hok hS hsz hT hk ht hj
    have : a = b := by rw [a1, b1] at e; omega
    subst this; rw [a3] at b3; omega
theorem eF_perm {c : Nat} (hc : c < nF G) : permB (s * t) (eF G f g s f2 g2 c) ((s * t : Nat) : Int) = true := by
  obtain ⟨j, hj, hf, rfl⟩ := first_of hok hc
  refine permB_of (fun i hi => ?_) (fun a b ha hb e => ?_)
  · rw [eF_at hok hj hf]; exact cmp_range hok hS hsz hT hj hi
  · rw [eF_at hok hj hf, eF_at hok hj hf] at e
    exact cmp_inj hok hS hsz hT hj ha hb e
theorem eF_sh : Sh G (s * t) (eF G f g s f2 g2) (fun k => invP (eF G f g s f2 g2 k) (s * t)) := sh_of (len := fun _ => s * t) fun _ hc => eF_perm hok hS hsz hT hc
/-- across a face with the permutations of the composition -/
theorem eF_cross {k i : Nat} (hk : k < 4 * G.n) (ht : ¬ G.tet k < 0) (hi : i < s * t) : crF G (eF G f g s f2 g2) (fun k => invP (eF G f g s f2 g2 k) (s * t)) (k / 4) (k % 4) i = cmp G f g s f2 g2 k i := by
  have e1 : 4 * (k / 4) + k % 4 = k := by omega
  rw [crF_at hok _ _ (by omega) (by omega), e1]
  by_cases c : isF G k
  · rw [if_pos c, eF_at hok hk c]
  · rw [if_neg c]
    obtain ⟨f1, ft, f3, -⟩ := tb_facts hok hk ht
    have hb := (isF_tb hok hk ht).2 c
    obtain ⟨j, a1, a2, a3⟩ := cmp_back hok hS hsz hT hk ht hi
    show invP (eF G f g s f2 g2 (fN G k)) (s * t) i = _
    rw [← fN_tb hok hk ht, a1]
    refine invP_at (fun a b ha hb' e => ?_) a2 ?_
    · rw [eF_at hok f1 hb, eF_at hok f1 hb] at e
      exact cmp_inj hok hS hsz hT f1 ha hb' e
    · rw [eF_at hok f1 hb, a3]
/-- the gluing of the composition is that of the covering of the covering -/
theorem cmp_gluing {K : Nat} (hK : K < 4 * (t * (s * G.n))) : (covG (covG G f g s) f2 g2 t).tet K = (covG G (eF G f g s f2 g2) (fun k => invP (eF G f g s f2 g2 k) (s * t)) (s * t)).tet K ∧
    (covG (covG G f g s) f2 g2 t).pm K = (covG G (eF G f g s f2 g2) (fun k => invP (eF G f g s f2 g2 k) (s * t)) (s * t)).pm K := by
  have hokH := cov_valid hok hS hsz
  obtain ⟨up, K1, hu, hK1, rfl⟩ := cov_split hokH hT (show K < 4 * (t * (covG G f g s).n) from hK)
  obtain ⟨low, k, hl, hk, rfl⟩ := cov_split hok hS (show K1 < 4 * (s * G.n) from hK1)
  have hE := eF_sh hok hS hsz hT
  obtain ⟨p1, n1, o1⟩ := cov_face hokH hT hu hK1
  obtain ⟨p2, n2, o2⟩ := cov_face hok hS hl hk
  have hmix := mix_lt hu hl
  obtain ⟨p3, n3, o3⟩ := cov_face hok hE hmix hk
  have eK : 4 * (covG G f g s).n * up + (4 * G.n * low + k) = 4 * G.n * (up * s + low) + k := by
    show 4 * (s * G.n) * up + (4 * G.n * low + k) = _
    rw [Nat.mul_add, ← Nat.add_assoc]
    congr 2
    rw [Nat.mul_comm s, ← Nat.mul_assoc, Nat.mul_assoc _ s up, Nat.mul_comm s up]
  rw [eK] at p1 n1 o1 ⊢
  refine ⟨?_, by rw [p1, p2, p3]⟩
  by_cases ht : G.tet k < 0
  · rw [n1 (by rw [n2 ht]; exact ht), n2 ht, n3 ht]
  · obtain ⟨l', a1, a2, a3, a4, -⟩ := o2 ht
    obtain ⟨u', b1, b2, b3, -, -⟩ := o1 (by rw [a3]; omega)
    obtain ⟨e', c1, c2, c3, -, -⟩ := o3 ht
    clear o1 o2 o3
    obtain ⟨l2, u2, d1, d2, d3, d4, d5, -⟩ := cmp_step hok hS hsz hT hk ht hl hu
    rw [eF_cross hok hS hsz hT hk ht hmix, d5] at c2
    have em : (4 * G.n * low + k) % 4 = k % 4 := by rw [Nat.mul_assoc]; omega
    have ed : (4 * G.n * low + k) / 4 = low * G.n + k / 4 := by rw [Nat.mul_assoc, Nat.mul_comm low]; omega
    rw [em, ed, d4] at b2
    rw [d3] at a2
    have q1 : l2 = l' := by omega
    have q2 : u2 = u' := by omega
    have q3 : e' = u' * s + l' := by rw [← q1, ← q2]; exact Int.natCast_inj.1 (c2.symm)
    have hTH : (covG G f g s).T (4 * G.n * low + k) = l' * G.n + G.T k := by
      show ((covG G f g s).tet (4 * G.n * low + k)).toNat = _
      rw [a3, Int.toNat_natCast]
    rw [b3, c3, hTH, q3]
    congr 1
    show u' * (s * G.n) + _ = _
    rw [Nat.add_mul, Nat.mul_assoc]; omega
/-- a place of the covering above a place -/
def lft (G : Gl) (u : RS) (x : Nat) : RS := (x * G.n + u.1, u.2)
omit hsz hT in
theorem stp_lft {u : RS} (hu : Rok G.n u) {x : Nat} (hx : x < s) : stp (covG G f g s) 2 (lft G u x) = (stp G 2 u).map fun z => lft G z (Xs G f g u x) := by
  have hr := rp_lt hu 2
  have hut := hu.t
  have hk : 4 * u.1 + rp u 2 < 4 * G.n := by omega
  obtain ⟨hp, hn, ho⟩ := cov_face hok hS hx hk
  have eK : 4 * (lft G u x).1 + rp (lft G u x) 2 = 4 * G.n * x + (4 * u.1 + rp u 2) := by
    show 4 * (x * G.n + u.1) + rp u 2 = _
    rw [Nat.mul_add, Nat.mul_comm x, ← Nat.mul_assoc]; omega
  unfold stp
  rw [eK]
  by_cases ht : G.tet (4 * u.1 + rp u 2) < 0
  · rw [if_pos ht, if_pos (by rw [hn ht]; exact ht)]; rfl
  · obtain ⟨x', h1, h2, h3, -, -⟩ := ho ht
    rw [if_neg ht, if_neg (by rw [h3]; omega)]
    have hP : ∀ i, (covG G f g s).P (4 * G.n * x + (4 * u.1 + rp u 2)) i = G.P (4 * u.1 + rp u 2) i := fun i => by simp only [Gl.P, hp]
    have hTT : (covG G f g s).T (4 * G.n * x + (4 * u.1 + rp u 2)) = x' * G.n + G.T (4 * u.1 + rp u 2) := by
      show ((covG G f g s).tet _).toNat = _
      rw [h3, Int.toNat_natCast]
    have hX : Xs G f g u x = x' := by
      unfold Xs
      rw [show (4 * u.1 + rp u 2) / 4 = u.1 by omega, show (4 * u.1 + rp u 2) % 4 = rp u 2 by omega] at h2
      rw [h2, Int.toNat_natCast]
    simp only [hP, hTT, Option.map_some, hX]
    rfl
omit hsz hT in
theorem itr_lft {u : RS} (hu : Rok G.n u) {x : Nat} (hx : x < s) : ∀ m, itr (covG G f g s) 2 (lft G u x) m = (itr G 2 u m).map fun z => lft G z (trn G f g u m x)
  | 0 => rfl
  | m + 1 => by
    rw [itr, itr, itr_lft hu hx m]
    cases hz : itr G 2 u m with
    | none => rfl
    | some z =>
      show stp (covG G f g s) 2 (lft G z (trn G f g u m x)) = (stp G 2 z).map _
      rw [stp_lft hok hS (itr_ok hok hu hz) (trn_lt hok hS hu (m := m) (by rw [hz]; simp) hx m (Nat.le_refl _)), trn_some hz]
theorem trn_mix {u : RS} (hu : Rok G.n u) {low up m : Nat} (hl : low < s) (hup : up < t) (hm : itr G 2 u m ≠ none) : ∀ k, k ≤ m →
    trn G f g u k low < s ∧ trn (covG G f g s) f2 g2 (lft G u low) k up < t ∧ trn G (eF G f g s f2 g2) (fun k => invP (eF G f g s f2 g2 k) (s * t)) u k (up * s + low) = trn (covG G f g s) f2 g2 (lft G u low) k up * s + trn G f g u k low
  | 0, _ => ⟨hl, hup, rfl⟩
  | k + 1, hk => by
    obtain ⟨i1, i2, i3⟩ := trn_mix hu hl hup hm k (by omega)
    obtain ⟨z', hz'⟩ : ∃ z, itr G 2 u (k + 1) = some z := Option.ne_none_iff_exists'.1 (fun e => hm (itr_none e hk))
    obtain ⟨z, hz⟩ : ∃ z, itr G 2 u k = some z := Option.ne_none_iff_exists'.1 (fun e => hm (itr_none e (by omega)))
    have hst : stp G 2 z = some z' := by rw [itr, hz] at hz'; exact hz'
    have hzo := itr_ok hok hu hz
    have hr := rp_lt hzo 2
    have hzt := hzo.t
    have ht : ¬ G.tet (4 * z.1 + rp z 2) < 0 := fun h => by unfold stp at hst; rw [if_pos h] at hst; cases hst
    have hzH : itr (covG G f g s) 2 (lft G u low) k = some (lft G z (trn G f g u k low)) := by rw [itr_lft hok hS hu hl, hz]; rfl
    rw [trn_some hz, trn_some hz, trn_some hzH, i3]
    obtain ⟨l', u', a1, a2, a3, a4, a5, -⟩ := cmp_step hok hS hsz hT (show 4 * z.1 + rp z 2 < 4 * G.n by omega) ht i1 i2
    have e1 : (4 * z.1 + rp z 2) / 4 = z.1 := by omega
    have e2 : (4 * z.1 + rp z 2) % 4 = rp z 2 := by omega
    have hc := eF_cross hok hS hsz hT (show 4 * z.1 + rp z 2 < 4 * G.n by omega) ht (mix_lt i2 i1)
    rw [a5, e1, e2] at hc
    rw [e1, e2] at a3 a4
    have x1 : Xs G f g z (trn G f g u k low) = l' := by unfold Xs; rw [a3, Int.toNat_natCast]
    have x2 : Xs (covG G f g s) f2 g2 (lft G z (trn G f g u k low)) (trn (covG G f g s) f2 g2 (lft G u low) k up) = u' := by
      unfold Xs
      show (crF (covG G f g s) f2 g2 (trn G f g u k low * G.n + z.1) (rp z 2) _).toNat = _
      rw [a4, Int.toNat_natCast]
    have x3 : Xs G (eF G f g s f2 g2) (fun k => invP (eF G f g s f2 g2 k) (s * t)) z (trn (covG G f g s) f2 g2 (lft G u low) k up * s + trn G f g u k low) = u' * s + l' := by
      unfold Xs; rw [hc, Int.toNat_natCast]
    rw [x1, x2, x3]
    exact ⟨a1, a2, rfl⟩
/-- the rings of the composition -/
theorem cmp_ring {u : RS} (hu : Rok G.n u) (h1 : ringOK G f g s u) (h2 : ∀ x, x < s → ringOK (covG G f g s) f2 g2 t (lft G u x)) :
    ringOK G (eF G f g s f2 g2) (fun k => invP (eF G f g s f2 g2 k) (s * t)) (s * t) u := by
  rw [ringOK_iff] at h1 ⊢
  intro m h0 hm hmin i hi
  obtain ⟨q1, q2, q3⟩ := mix_split hi
  have e1 := h1 m h0 hm hmin (i % s) q1
  have e2 := (ringOK_iff.1 (h2 (i % s) q1)) m h0 (by rw [itr_lft hok hS hu q1, hm, e1]; rfl) (fun j j0 jm e => by
    rw [itr_lft hok hS hu q1] at e
    cases hz : itr G 2 u j with
    | none => rw [hz] at e; cases e
    | some z =>
      rw [hz] at e
      simp only [Option.map_some, Option.some.injEq, lft, Prod.mk.injEq] at e
      have zt := (itr_ok hok hu hz).t
      have ut := hu.t
      have e3 : z.1 = u.1 := by
        have := congrArg (· % G.n) e.1
        simp only [Nat.mul_comm _ G.n, Nat.mul_add_mod, Nat.mod_eq_of_lt zt, Nat.mod_eq_of_lt ut] at this
        exact this
      exact hmin j j0 jm (by rw [hz, show z = u from Prod.ext e3 e.2])) (i / s) q2
  have e3 := (trn_mix hok hS hsz hT hu q1 q2 (m := m) (by rw [hm]; simp) m (Nat.le_refl _)).2.2
  rw [q3, e2, e1, q3] at e3
  exact e3
end
/-- the composition is a covering -/
theorem cmp_ok {G : Gl} {S T : Int} {np np2 : Nat} {len len2 : Nat → Nat} {fp fp2 : Nat → Nat → Int} (hok : checkB G = true) (h : CovOK G S np len fp) (h2 : CovOK (covG G fp (fun k => invP (fp k) S.toNat) S.toNat) T np2 len2 fp2) (h24 : S.toNat * T.toNat ≤ 24) :
    CovOK G ((S.toNat * T.toNat : Nat) : Int) (nF G) (fun _ => S.toNat * T.toNat) (eF G fp (fun k => invP (fp k) S.toNat) S.toNat fp2 (fun k => invP (fp2 k) T.toNat)) := by
  have hS := h.sh
  have hsz := h.small.2
  have hT := h2.sh
  have hokH := cov_valid hok hS hsz
  have hr1 := ((cov_iff hok _ _ _ _).1 h).2
  have hr2 := ((cov_iff hokH _ _ _ _).1 h2).2
  have l1 := h.lo
  have l2 := h2.lo
  have ht2 : T.toNat * (S.toNat * G.n) ≤ 1000 := h2.small.2
  refine (cov_iff hok _ _ _ _).2 ⟨⟨?_, by omega, ?_, rfl, fun c hc => eF_perm hok hS hsz hT hc, fun j hj hn i hi => ?_⟩, fun q hq => ?_⟩
  · have : 1 * 1 ≤ S.toNat * T.toNat := Nat.mul_le_mul (by omega) (by omega)
    omega
  · have : S.toNat * T.toNat * G.n ≤ 1000 := by rw [Nat.mul_comm S.toNat, Nat.mul_assoc]; exact ht2
    have e : ((S.toNat * T.toNat : Nat) : Int) * (G.n : Int) = ((S.toNat * T.toNat * G.n : Nat) : Int) := by push_cast; rfl
    rw [e]; omega
  · rw [eF_at hok hj (.inl hn)]; unfold cmp; rw [if_pos hn]
  · rw [Int.toNat_natCast]
    refine cmp_ring hok hS hsz hT (frS_ok (by omega) (by omega)) (hr1 q hq) (fun x hx => ?_)
    have hq6 : 6 * (x * G.n + q / 6) + q % 6 < 6 * (covG G fp (fun k => invP (fp k) S.toNat) S.toNat).n := by
      have := mix_lt (u := x) (s := G.n) (t := S.toNat) (l := q / 6) hx (by omega)
      show _ < 6 * (S.toNat * G.n)
      rw [Nat.mul_comm S.toNat]; omega
    have := hr2 _ hq6
    rw [show (6 * (x * G.n + q / 6) + q % 6) / 6 = x * G.n + q / 6 by omega, show (6 * (x * G.n + q / 6) + q % 6) % 6 = q % 6 by omega] at this
    exact this
end Go.Proofs.Ytlckpgahijlmoaa
/- The gluing of a covering has no reversed edges, if the gluing has none. Plain laws. -/
namespace Go.Proofs.Ytlckpgahijlmoaa

theorem joinR_inv {α : Type} {q : Nat → α} {r : Nat → Nat} {i j : Nat} (hr : ∀ x, q (r x) = q x) (h : q i = q j) : ∀ x, q (joinR r i j x) = q x := fun x => by
  have h2 := hr i
  have h3 := hr j
  have h4 := hr x
  unfold joinR
  split
  · rename_i e
    rw [e] at h4
    rcases Nat.le_total (r i) (r j) with c | c
    · rw [Nat.max_eq_right c] at h4; rw [Nat.min_eq_left c, h2, h, ← h3]; exact h4
    · rw [Nat.max_eq_left c] at h4; rw [Nat.min_eq_right c, h3, ← h, ← h2]; exact h4
  · exact h4
theorem dr_inv {α : Type} {q : Nat → α} {G : Gl} (hq : ∀ k, k < 4 * G.n → ¬ G.tet k < 0 → ∀ i j, i < 4 → j < 4 → i ≠ j → i ≠ k % 4 → j ≠ k % 4 → q (16 * (k / 4) + 4 * i + j) = q (16 * G.T k + 4 * G.P k i + G.P k j)) : ∀ m, m ≤ 4 * G.n → ∀ x, q (lp (drF G) id m x) = q x := fun m hm => by
  refine lp_inv (p := fun r : Nat → Nat => ∀ x, q (r x) = q x) (fun _ => rfl) (fun k hk r hr => ?_)
  by_cases ht : G.tet k < 0
  · rw [drF_lt ht]; exact hr
  · rw [drF_ge ht]
    refine lp_inv (p := fun r : Nat → Nat => ∀ x, q (r x) = q x) hr (fun i hi r hr => ?_)
    unfold drI
    refine lp_inv (p := fun r : Nat → Nat => ∀ x, q (r x) = q x) hr (fun j hj r hr => ?_)
    unfold drJ
    split
    · exact hr
    · rename_i c
      exact joinR_inv hr (hq k (by omega) ht i j hi hj (fun e => c (.inl e)) (fun e => c (.inr (.inl e))) (fun e => c (.inr (.inr e))))
theorem lp_from {α : Type} {f : Nat → α → α} {p : α → Prop} {s : α} {k : Nat} (hk : ∀ s, p (f k s)) (hf : ∀ i s, p s → p (f i s)) : ∀ m, k < m → p (lp f s m)
  | 0, h => absurd h (Nat.not_lt_zero k)
  | m + 1, h => by
    show p (f m (lp f s m))
    by_cases e : k = m
    · subst e; exact hk _
    · exact hf _ _ (lp_from hk hf m (by omega))
/-- neighbours' directed edges have one root -/
theorem dr_meets {G : Gl} {k i j : Nat} (ht : ¬ G.tet k < 0) (hi : i < 4) (hj : j < 4) (h1 : i ≠ j) (h2 : i ≠ k % 4) (h3 : j ≠ k % 4) : ∀ m, k < m → lp (drF G) id m (16 * (k / 4) + 4 * i + j) = lp (drF G) id m (16 * G.T k + 4 * G.P k i + G.P k j) := fun m hm => by
  have hJ : ∀ k' i' j' (r : Nat → Nat), r (16 * (k / 4) + 4 * i + j) = r (16 * G.T k + 4 * G.P k i + G.P k j) → drJ G k' i' j' r (16 * (k / 4) + 4 * i + j) = drJ G k' i' j' r (16 * G.T k + 4 * G.P k i + G.P k j) := fun k' i' j' r h => by
    unfold drJ; split
    · exact h
    · exact join_keeps h _ _
  have hI : ∀ k' i' (r : Nat → Nat), r (16 * (k / 4) + 4 * i + j) = r (16 * G.T k + 4 * G.P k i + G.P k j) → drI G k' i' r (16 * (k / 4) + 4 * i + j) = drI G k' i' r (16 * G.T k + 4 * G.P k i + G.P k j) := fun k' i' r h =>
    lp_inv (p := fun r : Nat → Nat => r (16 * (k / 4) + 4 * i + j) = r (16 * G.T k + 4 * G.P k i + G.P k j)) h (fun j' _ r h => hJ k' i' j' r h)
  refine lp_from (p := fun r : Nat → Nat => r (16 * (k / 4) + 4 * i + j) = r (16 * G.T k + 4 * G.P k i + G.P k j)) (k := k) (fun r => ?_) (fun k' r h => ?_) m hm
  · rw [drF_ge ht]
    refine lp_from (p := fun r : Nat → Nat => r (16 * (k / 4) + 4 * i + j) = r (16 * G.T k + 4 * G.P k i + G.P k j)) (k := i) (fun r => ?_) (fun i' r h => hI k i' r h) 4 hi
    unfold drI
    refine lp_from (p := fun r : Nat → Nat => r (16 * (k / 4) + 4 * i + j) = r (16 * G.T k + 4 * G.P k i + G.P k j)) (k := j) (fun r => ?_) (fun j' r h => hJ k i j' r h) 4 hj
    rw [drJ_ne h1 h2 h3]; exact join_meets _ _ _
  · unfold drF
    split
    · exact h
    · exact lp_inv (p := fun r : Nat → Nat => r (16 * (k / 4) + 4 * i + j) = r (16 * G.T k + 4 * G.P k i + G.P k j)) h (fun i' _ r h => hI k' i' r h)
theorem revK_iff {G : Gl} {c : Nat} : ∀ M, revK G M c = true ↔ ∃ m, m < M ∧ rv1 G m = true ∧ eN G m = c
  | 0 => by simp [revK]
  | M + 1 => by
    have ih := revK_iff (G := G) (c := c) M
    by_cases h : rv1 G M = true
    · simp only [revK, h, if_true]
      by_cases e : c = eN G M
      · rw [if_pos e]
        exact ⟨fun _ => ⟨M, by omega, h, e.symm⟩, fun _ => rfl⟩
      · rw [if_neg e, ih]
        exact ⟨fun ⟨m, a, b⟩ => ⟨m, by omega, b⟩, fun ⟨m, a, b, d⟩ => ⟨m, by
          rcases Nat.lt_or_ge m M with q | q
          · exact q
          · obtain rfl : m = M := by omega
            exact absurd d.symm e, b, d⟩⟩
    · have h' : rv1 G M = false := by simpa using h
      simp only [revK, h', Bool.false_eq_true, if_false]
      rw [ih]
      exact ⟨fun ⟨m, a, b⟩ => ⟨m, by omega, b⟩, fun ⟨m, a, b, d⟩ => ⟨m, by
        rcases Nat.lt_or_ge m M with q | q
        · exact q
        · obtain rfl : m = M := by omega
          exact absurd b h, b, d⟩⟩
theorem eN_small {G : Gl} (hok : checkB G = true) {m : Nat} (hm : m < 6 * G.n) : eN G m < nE G := by
  obtain ⟨u, hu⟩ := (cls_inv hok).2.2.1
  have h1 := hu.idem m hm
  have h2 := hu.rle m hm
  exact cnt_lt _ h1 (by omega)
theorem rev_none {G : Gl} (hok : checkB G = true) : (∀ i, i < nE G → revK G (6 * G.n) i = false) ↔ ∀ m, m < 6 * G.n → rv1 G m = false := by
  constructor
  · intro h m hm
    cases q : rv1 G m with
    | false => rfl
    | true =>
      have := h (eN G m) (eN_small hok hm)
      rw [(revK_iff (6 * G.n)).2 ⟨m, hm, q, rfl⟩] at this; cases this
  · intro h i _
    cases q : revK G (6 * G.n) i with
    | false => rfl
    | true =>
      obtain ⟨m, a, b, -⟩ := (revK_iff _).1 q
      rw [h m a] at b; cases b
theorem pAB_lt : ∀ e, e < 6 → pA e < 4 ∧ pB e < 4 := by decide
/-- an edge is reversed where both directions have one root -/
theorem rv1_iff {G : Gl} (hok : checkB G = true) {m : Nat} (hm : m < 6 * G.n) : rv1 G m = true ↔ (clsAll G).r2 (16 * (m / 6) + 4 * pA (m % 6) + pB (m % 6)) = (clsAll G).r2 (16 * (m / 6) + 4 * pB (m % 6) + pA (m % 6)) := by
  obtain ⟨u, hu⟩ := (cls_inv hok).2.1
  obtain ⟨a, b⟩ := pAB_lt (m % 6) (by omega)
  unfold rv1 dN
  rw [beq_iff_eq]
  exact ⟨fun h => cnt_inj (hu.idem _ (by omega)) (hu.idem _ (by omega)) h, fun h => by rw [h]⟩
section
variable {G : Gl} {f g : Nat → Nat → Int} {s : Nat} (hok : checkB G = true) (hS : Sh G s f g) (hsz : s * G.n ≤ 1000)
include hok hS hsz
theorem cov_norev (h : ∀ i, i < nE G → revK G (6 * G.n) i = false) : ∀ i, i < nE (covG G f g s) → revK (covG G f g s) (6 * (covG G f g s).n) i = false := by
  have hokH := cov_valid hok hS hsz
  rw [rev_none hok] at h
  rw [rev_none hokH]
  intro m hm
  have hm' : m < 6 * (s * G.n) := hm
  have hn : 0 < G.n := by
    rcases Nat.eq_zero_or_pos G.n with e | e
    · rw [e] at hm'; simp at hm'
    · exact e
  cases q : rv1 (covG G f g s) m with
  | false => rfl
  | true =>
    rw [rv1_iff hokH hm] at q
    have hml := Nat.mod_lt (m / 6) hn
    have h1 := h (6 * (m / 6 % G.n) + m % 6) (by omega)
    have e1 : (6 * (m / 6 % G.n) + m % 6) / 6 = m / 6 % G.n := by omega
    have e2 : (6 * (m / 6 % G.n) + m % 6) % 6 = m % 6 := by omega
    obtain ⟨pa, pb⟩ := pAB_lt (m % 6) (by omega)
    have key := dr_inv (q := fun y => (clsAll G).r2 (16 * (y / 16 % G.n) + y % 16)) (G := covG G f g s) (fun K hK ht i j hi hj c1 c2 c3 => by
      obtain ⟨x, k, hx, hk, rfl⟩ := cov_split hok hS (show K < 4 * (s * G.n) from hK)
      obtain ⟨hp, hneg, hpos⟩ := cov_face hok hS hx hk
      have htG : ¬ G.tet k < 0 := fun c => ht (by rw [hneg c]; exact c)
      obtain ⟨x', a1, a2, a3, -, -⟩ := hpos htG
      obtain ⟨-, t2, t3⟩ := ok_face hok hk htG
      have ed : (4 * G.n * x + k) / 4 = x * G.n + k / 4 := by rw [Nat.mul_assoc, Nat.mul_comm x]; omega
      have eT : (covG G f g s).T (4 * G.n * x + k) = x' * G.n + G.T k := by
        show ((covG G f g s).tet _).toNat = _
        rw [a3, Int.toNat_natCast]
      have hP : ∀ i, (covG G f g s).P (4 * G.n * x + k) i = G.P k i := fun i => by simp only [Gl.P, hp]
      have pi := (t3 i hi).2
      have pj := (t3 j hj).2
      show (clsAll G).r2 (16 * ((16 * ((4 * G.n * x + k) / 4) + 4 * i + j) / 16 % G.n) + (16 * ((4 * G.n * x + k) / 4) + 4 * i + j) % 16) = (clsAll G).r2 (16 * ((16 * (covG G f g s).T (4 * G.n * x + k) + 4 * (covG G f g s).P (4 * G.n * x + k) i + (covG G f g s).P (4 * G.n * x + k) j) / 16 % G.n) + (16 * (covG G f g s).T (4 * G.n * x + k) + 4 * (covG G f g s).P (4 * G.n * x + k) i + (covG G f g s).P (4 * G.n * x + k) j) % 16)
      rw [ed, eT, hP, hP]
      rw [show (16 * (x * G.n + k / 4) + 4 * i + j) / 16 = x * G.n + k / 4 by omega, show (16 * (x * G.n + k / 4) + 4 * i + j) % 16 = 4 * i + j by omega,
        show (16 * (x' * G.n + G.T k) + 4 * G.P k i + G.P k j) / 16 = x' * G.n + G.T k by omega, show (16 * (x' * G.n + G.T k) + 4 * G.P k i + G.P k j) % 16 = 4 * G.P k i + G.P k j by omega,
        (mix_mod' (u := x) (s := G.n) (l := k / 4) (by omega)).1, (mix_mod' (u := x') t2).1, ← Nat.add_assoc, ← Nat.add_assoc]
      have em : (4 * G.n * x + k) % 4 = k % 4 := by rw [Nat.mul_assoc]; omega
      rw [em] at c2 c3
      rw [cls_r2]; exact dr_meets htG hi hj c1 c2 c3 _ (by omega)) (4 * (covG G f g s).n) (Nat.le_refl _)
    rw [← cls_r2] at key
    have k1 := key (16 * (m / 6) + 4 * pA (m % 6) + pB (m % 6))
    have k2 := key (16 * (m / 6) + 4 * pB (m % 6) + pA (m % 6))
    rw [q] at k1
    rw [k1] at k2
    rw [show (16 * (m / 6) + 4 * pA (m % 6) + pB (m % 6)) / 16 = m / 6 by omega, show (16 * (m / 6) + 4 * pA (m % 6) + pB (m % 6)) % 16 = 4 * pA (m % 6) + pB (m % 6) by omega,
      show (16 * (m / 6) + 4 * pB (m % 6) + pA (m % 6)) / 16 = m / 6 by omega, show (16 * (m / 6) + 4 * pB (m % 6) + pA (m % 6)) % 16 = 4 * pB (m % 6) + pA (m % 6) by omega, ← Nat.add_assoc, ← Nat.add_assoc] at k2
    have : rv1 G (6 * (m / 6 % G.n) + m % 6) = true := by
      rw [rv1_iff hok (by omega), e1, e2]; exact k2
    rw [h1] at this; cases this
/-- a covering's gluing may be asked for coverings -/
theorem cov_ask (h : askI G = 0) : askI (covG G f g s) = 0 :=
  askI_zero.2 ⟨cov_valid hok hS hsz, cov_norev hok hS hsz (askI_zero.1 h).2⟩
end
end Go.Proofs.Ytlckpgahijlmoaa
namespace Go.Proofs.Ytlckpgahijlmoaa
open Go.RowKit Go.Shelf Go.Maps

/-- a covering's cells at D, its lists of S numbers each under way, with their numbers and their blocks -/
structure CW (W0 W : World) (D S k : Nat) (F : Nat → Nat → Int) (ds : Nat → Nat) (uv : Value) (xs : List Value) : Prop where
  own : W.ownsRow (D + 1) 35 1 uv k xs
  row : ∀ j, j < k → xs[j]? = some (.slice (some ⟨ds j, 0, none⟩) S S) ∧ D < ds j ∧ uv.ownBlock ≠ some (ds j) ∧ IntRow W (ds j) S (F j)
  inj : ∀ i j, i < k → j < k → ds i = ds j → i = j
  d0 : W.cell? ⟨D, 0, none⟩ = some (.int .i64 (S : Int))
  d1 : W.cell? ⟨D, 1, none⟩ = some uv
  f1 : W.frozen? ⟨D, 1, none⟩ = false
  bel : Below D W0 W
theorem CW.kept {W0 W W' : World} {D S k : Nat} {F : Nat → Nat → Int} {ds : Nat → Nat} {uv : Value} {xs : List Value} (h : CW W0 W D S k F ds uv xs) (hg : W.grownBy W' none) : CW W0 W' D S k F ds uv xs := by
  refine ⟨h.own.kept hg (by cases uv.ownBlock <;> simp), fun j hj => ?_, h.inj, hg.cell h.d0 (by simp), hg.cell h.d1 (by simp), (hg.frozen_far ⟨D, 1, none⟩ (lt_of_cell h.d1) (by simp)).trans h.f1, h.bel.grown hg (by have := lt_of_cell h.d0; simp only at this; omega) (fun r e => by cases e)⟩
  obtain ⟨e1, e2, e3, e4⟩ := h.row j hj
  exact ⟨e1, e2, e3, rowIs_kept e4 hg (by simp)⟩
theorem CW.ne {W0 W : World} {D S k : Nat} {F : Nat → Nat → Int} {ds : Nat → Nat} {uv : Value} {xs : List Value} (h : CW W0 W D S k F ds uv xs) : some D ≠ uv.ownBlock := fun e => by
  have := (h.own.lt D e.symm).1; omega
theorem CW.push {W0 W W2 w2 : World} {D S k d g gc : Nat} {F : Nat → Nat → Int} {ds : Nat → Nat} {uv : Value} {xs : List Value} {f : Nat → Int} (h : CW W0 W D S k F ds uv xs) (hg : W.grownBy W2 none) (hd : W.heap.size ≤ d) (hrow : IntRow W2 d S f)
    (hown : w2.ownsRow (D + 1) 35 1 (.slice (some ⟨g, 0, none⟩) (k + 1) gc) (k + 1) (xs ++ [.slice (some ⟨d, 0, none⟩) S S])) (hgrow : W2.grownBy w2 uv.ownBlock) (hat : uv.ownBlock = some g ∨ g = W2.heap.size) :
    CW W0 (w2.setCell ⟨D, 1, none⟩ (.slice (some ⟨g, 0, none⟩) (k + 1) gc)) D S (k + 1) (fun j => if j = k then f else F j) (fun j => if j = k then d else ds j) (.slice (some ⟨g, 0, none⟩) (k + 1) gc) (xs ++ [.slice (some ⟨d, 0, none⟩) S S]) := by
  have h1 := h.kept hg
  have hDl := lt_of_cell h.d0
  simp only at hDl
  have hxl := h.own.1
  have hs2 := hg.size
  have hsc := grownBy_setCell w2 D 1 (.slice (some ⟨g, 0, none⟩) (k + 1) gc)
  have hob : ∀ j, uv.ownBlock = some j → D + 1 ≤ j ∧ j < W.heap.size := fun j hj => h.own.lt j hj
  have hgD : g ≠ D := fun e => by
    rcases hat with q | q
    · have := (hob g q).1; omega
    · omega
  refine ⟨hown.kept hsc (.inr (by simp only [Value.ownBlock, ne_eq, Option.some.injEq]; exact hgD)), fun j hj => ?_, fun i j hi hj e => ?_, ?_, World.cell?_setCell_same _ _ _ (hgrow.cell h1.d1 h.ne), ?_, ?_⟩
  · by_cases e : j = k
    · subst e
      simp only [if_pos]
      refine ⟨by rw [List.getElem?_append_right (by omega), show j - xs.length = 0 by omega]; rfl, by omega, ?_, ?_⟩
      · have hdl := hrow.lt
        simp only [Value.ownBlock, ne_eq, Option.some.injEq]
        intro q
        rcases hat with z | z
        · subst q; have := (hob _ z).2; omega
        · omega
      · exact rowIs_kept (rowIs_kept hrow hgrow (fun q => by have := (hob d q.symm).2; omega)) hsc (by simp; omega)
    · simp only [if_neg e]
      obtain ⟨e1, e2, e3, e4⟩ := h1.row j (by omega)
      obtain ⟨q1, q2, q3, q4⟩ := h.row j (by omega)
      refine ⟨by rw [List.getElem?_append_left (by omega)]; exact e1, e2, ?_, ?_⟩
      · simp only [Value.ownBlock, ne_eq, Option.some.injEq]
        intro q
        rcases hat with z | z
        · subst q; exact e3 z
        · have := q4.lt; omega
      · exact rowIs_kept (rowIs_kept e4 hgrow (fun q => e3 q.symm)) hsc (by simp; omega)
  · have hlt : ∀ j, j < k → ds j < W.heap.size := fun j hj => (h.row j hj).2.2.2.lt
    by_cases ei : i = k
    · by_cases ej : j = k
      · omega
      · rw [if_pos ei, if_neg ej] at e
        have := hlt j (by omega); omega
    · by_cases ej : j = k
      · rw [if_neg ei, if_pos ej] at e
        have := hlt i (by omega); omega
      · rw [if_neg ei, if_neg ej] at e
        exact h.inj i j (by omega) (by omega) e
  · exact (World.cell?_setCell_other (a := ⟨D, 1, none⟩) (b := ⟨D, 0, none⟩) _ _ (by simp)).trans (hgrow.cell h1.d0 h.ne)
  · rw [World.frozen?_setCell]; exact (hgrow.frozen_far ⟨D, 1, none⟩ (lt_of_cell h1.d1) h.ne).trans h1.f1
  · exact (h1.bel.grown hgrow (by omega) (fun r e => by have := (hob r e).1; omega)).setCell (by show D ≤ D; omega) _
/-- a number more in one of the lists -/
def putF (F : Nat → Nat → Int) (j i : Nat) (x : Int) : Nat → Nat → Int := fun l a => if l = j ∧ a = i then x else F l a
/-- a number is stored into a list -/
theorem CW.store {W0 W : World} {D S k j i : Nat} {F : Nat → Nat → Int} {ds : Nat → Nat} {uv : Value} {xs : List Value} (h : CW W0 W D S k F ds uv xs) (hj : j < k) (x : Int) : CW W0 (W.setCell ⟨ds j, i, none⟩ (.int .i64 x)) D S k (putF F j i x) ds uv xs := by
  obtain ⟨e1, e2, e3, e4⟩ := h.row j hj
  have hsc := grownBy_setCell W (ds j) i (.int .i64 x)
  have hne : some D ≠ some (ds j) := by simp; omega
  refine ⟨h.own.kept hsc (.inr e3), fun l hl => ?_, h.inj, hsc.cell h.d0 hne, hsc.cell h.d1 hne, (hsc.frozen_far ⟨D, 1, none⟩ (lt_of_cell h.d1) hne).trans h.f1, h.bel.setCell (by show D ≤ ds j; omega) _⟩
  obtain ⟨q1, q2, q3, q4⟩ := h.row l hl
  by_cases e : l = j
  · subst e
    refine ⟨q1, q2, q3, (q4.set i _).congr fun a _ => ?_⟩
    by_cases e : a = i <;> simp [putF, e]
  · refine ⟨q1, q2, q3, (rowIs_kept q4 hsc (by simp; exact fun z => e (h.inj l j hl hj z))).congr fun a _ => ?_⟩
    simp [putF, e]
/-- the blocks of the lists lie below R -/
structure CWH (R : Nat) (uv : Value) (k : Nat) (ds : Nat → Nat) : Prop where
  own : ∀ b, uv.ownBlock = some b → b < R
  row : ∀ j, j < k → ds j < R
theorem CW.high {W0 W : World} {D S k : Nat} {F : Nat → Nat → Int} {ds : Nat → Nat} {uv : Value} {xs : List Value} (h : CW W0 W D S k F ds uv xs) : CWH W.heap.size uv k ds :=
  ⟨fun b hb => (h.own.lt b hb).2, fun j hj => (h.row j hj).2.2.2.lt⟩
theorem CW.keptR {W0 W W' : World} {D S k R : Nat} {F : Nat → Nat → Int} {ds : Nat → Nat} {uv : Value} {xs : List Value} (h : CW W0 W D S k F ds uv xs) (hh : CWH R uv k ds) (hD : D < R) (hg : W.grownBy W' (some R)) : CW W0 W' D S k F ds uv xs := by
  have hne : some D ≠ some R := by simp; omega
  refine ⟨h.own.kept hg (.inr (fun e => by have := hh.own _ e; omega)), fun j hj => ?_, h.inj, hg.cell h.d0 hne, hg.cell h.d1 hne, (hg.frozen_far ⟨D, 1, none⟩ (lt_of_cell h.d1) hne).trans h.f1, h.bel.grown hg (by have := lt_of_cell h.d0; simp only at this; omega) (fun r e => by cases e; omega)⟩
  obtain ⟨e1, e2, e3, e4⟩ := h.row j hj
  exact ⟨e1, e2, e3, rowIs_kept e4 hg (by have := hh.row j hj; simp; omega)⟩
/-- the cell of a list -/
theorem CW.at {W0 W : World} {D S k j : Nat} {F : Nat → Nat → Int} {ds : Nat → Nat} {uv : Value} {xs : List Value} (h : CW W0 W D S k F ds uv xs) (hj : j < k) : ∃ g gc, uv = .slice (some ⟨g, 0, none⟩) k gc ∧ W.cell? ⟨g, j, none⟩ = some (.slice (some ⟨ds j, 0, none⟩) S S) ∧ D < ds j ∧ IntRow W (ds j) S (F j) := by
  obtain ⟨e1, e2, e3, e4⟩ := h.row j hj
  obtain ⟨g, gc, hv, _⟩ := h.own.form (by omega)
  subst hv
  refine ⟨g, gc, rfl, ?_, e2, e4⟩
  have := h.own.cells (g := g) rfl j _ e1
  rwa [Addr.add_mid, Nat.zero_add] at this
theorem CW.LLn {W0 W : World} {D S k : Nat} {F E : Nat → Nat → Int} {ds : Nat → Nat} {uv : Value} {xs : List Value} (h : CW W0 W D S k F ds uv xs) (e : ∀ j, j < k → ∀ i, i < S → F j i = E j i) : LLn (D + 1) W.heap.size W uv k (fun _ => S) E := by
  have hxl := h.own.1
  rcases h.own.2 with ⟨rfl, rfl⟩ | ⟨g, cap, cur, rfl, hge, hgg, _⟩
  · exact ⟨none, 0, 0, 0, rfl, fun h => by omega, fun j hj => by omega⟩
  · refine ⟨_, g, 0, cap, rfl, fun _ => ⟨rfl, hge, (Array.getElem?_eq_some_iff.1 hgg).1⟩, fun j hj => ?_⟩
    obtain ⟨e1, e2, e3, e4⟩ := h.row j hj
    refine ⟨_, ds j, 0, S, ?_, fun hp => ⟨rfl, by omega, e4.lt⟩, fun i hi => by rw [Nat.zero_add, ← e j hj i hi]; exact e4.cell hi⟩
    have := h.own.cells (g := g) rfl j _ e1
    rw [Addr.add_mid] at this
    exact this
/-- inside a round of the range: the lists, the range under way, the place at A -/
structure YL (W0 W : World) (D S k R A mb nn cnt : Nat) (F : Nat → Nat → Int) (ds : Nat → Nat) (uv : Value) (xs : List Value) (dd : Nat × Nat → Option Nat) (left : Nat × Nat → Bool) (t f : Nat) : Prop where
  z : CW W0 W D S k F ds uv xs
  m : MapR W okp kp vi mb R nn dd left cnt
  a0 : W.cell? ⟨A, 0, none⟩ = some (.int .i64 (t : Int))
  a1 : W.cell? ⟨A, 1, none⟩ = some (.int .i64 (f : Int))
theorem YL.kept {W0 W W' : World} {D S k R A mb nn cnt : Nat} {F : Nat → Nat → Int} {ds : Nat → Nat} {uv : Value} {xs : List Value} {dd : Nat × Nat → Option Nat} {left : Nat × Nat → Bool} {t f : Nat} (h : YL W0 W D S k R A mb nn cnt F ds uv xs dd left t f) (hg : W.grownBy W' none) : YL W0 W' D S k R A mb nn cnt F ds uv xs dd left t f :=
  ⟨h.z.kept hg, h.m.kept hg (by simp) (by simp), hg.cell h.a0 (by simp), hg.cell h.a1 (by simp)⟩
theorem YL.store {W0 W : World} {D S k R A mb nn cnt : Nat} {F : Nat → Nat → Int} {ds : Nat → Nat} {uv : Value} {xs : List Value} {dd : Nat × Nat → Option Nat} {left : Nat × Nat → Bool} {t f j i : Nat} (h : YL W0 W D S k R A mb nn cnt F ds uv xs dd left t f) (hh : CWH R uv k ds) (hR : R ≤ A) (hmb : mb < D) (hj : j < k) (x : Int) :
    YL W0 (W.setCell ⟨ds j, i, none⟩ (.int .i64 x)) D S k R A mb nn cnt (putF F j i x) ds uv xs dd left t f := by
  have hd := hh.row j hj
  have hD := (h.z.row j hj).2.1
  have hsc := grownBy_setCell W (ds j) i (.int .i64 x)
  exact ⟨h.z.store hj x, h.m.kept hsc (by simp; omega) (by simp; omega), hsc.cell h.a0 (by simp; omega), hsc.cell h.a1 (by simp; omega)⟩

/-- the classes done so far -/
def DnI (G : Gl) (S : Nat) (left : Nat × Nat → Bool) (F E : Nat → Nat → Int) : Prop := ∀ p c, fD G (4 * G.n) p = some c → left p = false → ∀ i, i < S → F c i = E c i
/-- the classes done, and of the class c the numbers before sheet m, l -/
def DnJ (G : Gl) (S s : Nat) (left : Nat × Nat → Bool) (p0 : Nat × Nat) (c m l : Nat) (F E : Nat → Nat → Int) : Prop :=
  (∀ p c', fD G (4 * G.n) p = some c' → left p = false → p ≠ p0 → ∀ i, i < S → F c' i = E c' i) ∧ ∀ i, i < S → (i % s < m ∨ (i % s = m ∧ i / s < l)) → F c i = E c i
theorem DnI.start {G : Gl} {S s : Nat} {left : Nat × Nat → Bool} {p0 : Nat × Nat} {c : Nat} {F E : Nat → Nat → Int} (h : DnI G S left F E) : DnJ G S s (fun x => left x && !decide (x = p0)) p0 c 0 0 F E :=
  ⟨fun p c' hp hl hne i hi => h p c' hp (by simpa [hne] using hl) i hi, fun i _ h => by rcases h with h | ⟨_, h⟩ <;> exact absurd h (Nat.not_lt_zero _)⟩
theorem DnJ.next {G : Gl} {S s : Nat} {left : Nat × Nat → Bool} {p0 : Nat × Nat} {c m t : Nat} {F E : Nat → Nat → Int} (h : DnJ G S s left p0 c m t F E) (hS : S = s * t) : DnJ G S s left p0 c (m + 1) 0 F E :=
  ⟨h.1, fun i hi hc => h.2 i hi (by
    have := (mix_split (s := s) (t := t) (by rw [← hS]; exact hi)).2.1
    rcases hc with h | ⟨_, h⟩
    · rcases Nat.lt_or_ge (i % s) m with z | z
      · exact .inl z
      · exact .inr ⟨by omega, this⟩
    · exact absurd h (Nat.not_lt_zero _))⟩
theorem DnJ.done {G : Gl} {S s : Nat} {left : Nat × Nat → Bool} {p0 : Nat × Nat} {c t : Nat} {F E : Nat → Nat → Int} (h : DnJ G S s left p0 c s 0 F E) (hS : S = s * t) (hc : fD G (4 * G.n) p0 = some c) : DnI G S left F E := fun p c' hp hl i hi => by
  by_cases e : p = p0
  · subst e
    rw [hc] at hp; injection hp with hp; subst hp
    exact h.2 i hi (.inl (mix_split (s := s) (t := t) (by rw [← hS]; exact hi)).1)
  · exact h.1 p c' hp hl e i hi
theorem DnJ.put {G : Gl} (hok : checkB G = true) {S s : Nat} {left : Nat × Nat → Bool} {p0 : Nat × Nat} {c m l M : Nat} {F E : Nat → Nat → Int} {x : Int} (h : DnJ G S s left p0 c m l F E) (hc : fD G (4 * G.n) p0 = some c) (_hs : m < s) (hM : M = l * s + m) (hx : x = E c M) : DnJ G S s left p0 c m (l + 1) (putF F c M x) E := by
  refine ⟨fun p c' hp hl hne i hi => ?_, fun i hi hcc => ?_⟩
  · have : c' ≠ c := fun e => hne (fD_inj hok (e ▸ hp) hc)
    rw [putF, if_neg (fun q => this q.1)]
    exact h.1 p c' hp hl hne i hi
  · by_cases e : i = M
    · subst e; rw [putF, if_pos ⟨rfl, rfl⟩]; exact hx
    · rw [putF, if_neg (fun q => e q.2)]
      refine h.2 i hi ?_
      rcases hcc with q | ⟨q1, q2⟩
      · exact .inl q
      · refine .inr ⟨q1, ?_⟩
        rcases Nat.lt_or_ge (i / s) l with z | z
        · exact z
        · have e2 : i / s = l := by omega
          have := Nat.div_add_mod i s
          rw [e2, q1, Nat.mul_comm] at this
          omega
theorem DnI.all {G : Gl} (hok : checkB G = true) {S : Nat} {left : Nat × Nat → Bool} {F E : Nat → Nat → Int} (h : DnI G S left F E) (hl : ∀ p, left p = false) : ∀ c, c < nF G → ∀ i, i < S → F c i = E c i := fun c hc i hi => by
  obtain ⟨p, hp⟩ := fD_surj hok hc
  exact h p c hp (hl p) i hi
/-- asked's answer, in one shape, with its error -/
theorem AskedAns.two {G : Gl} {v : Value} {sh : Int} {pv : Value} {np : Nat} {len : Nat → Nat} {fp : Nat → Nat → Int} {e : Ending} {w' : World} (h : AskedAns G v sh pv np len fp e w') :
    ∃ pt c, e = .returned (.tuple #[pt, .int .i64 c]) ∧ AskedErr G sh np len fp c ∧ (c ≠ 0 ∨ (c = 0 ∧ checkB G = true ∧ CovOK G sh np len fp ∧ ∃ Cv B' X mb bv vv ev tv lv dB rB, pt = .pointer (some ⟨Cv, 0, none⟩) ∧ CV w' w'.heap.size Cv B' X mb v pv bv G vv ev tv lv dB rB sh.toNat fp (fun k => invP (fp k) sh.toNat))) := by
  rcases h.out with ⟨c, h1, h2, h3⟩ | ⟨Cv, B', X, mb, bv, vv, ev, tv, lv, dB, rB, h1, h2, h3, h4, h5⟩
  · exact ⟨_, c, h2, h3, .inl h1⟩
  · exact ⟨_, 0, h1, h2, .inr ⟨rfl, h3, h4, Cv, B', X, mb, bv, vv, ev, tv, lv, dB, rB, rfl, h5⟩⟩
/-- the error of a composition -/
noncomputable def cmpI (G : Gl) (sh : Int) (np : Nat) (len : Nat → Nat) (fp : Nat → Nat → Int) (sh2 : Int) (np2 : Nat) (len2 : Nat → Nat) (fp2 : Nat → Nat → Int) : Int :=
  if rerI G sh np len fp = 0 then (if rerI (covG G fp (fun k => invP (fp k) sh.toNat) sh.toNat) sh2 np2 len2 fp2 = 0 then (if 24 < sh.toNat * sh2.toNat then 2 else 0) else 110) else rerI G sh np len fp
/-- the permutations of a composition -/
noncomputable def cmpF (G : Gl) (sh : Int) (fp : Nat → Nat → Int) (sh2 : Int) (fp2 : Nat → Nat → Int) : Nat → Nat → Int := eF G fp (fun k => invP (fp k) sh.toNat) sh.toNat fp2 (fun k => invP (fp2 k) sh2.toNat)
/-- what Compose answers -/
def CmpAns (G : Gl) (sh : Int) (np : Nat) (len : Nat → Nat) (fp : Nat → Nat → Int) (sh2 : Int) (np2 : Nat) (len2 : Nat → Nat) (fp2 : Nat → Nat → Int) (e : Ending) (w' : World) : Prop :=
  ∃ s pv, e = .returned (.tuple #[.agg #[.int .i64 s, pv], .int .i64 (cmpI G sh np len fp sh2 np2 len2 fp2)]) ∧
    ((cmpI G sh np len fp sh2 np2 len2 fp2 ≠ 0 ∧ s = 0 ∧ pv = .slice none 0 0) ∨
     (cmpI G sh np len fp sh2 np2 len2 fp2 = 0 ∧ s = ((sh.toNat * sh2.toNat : Nat) : Int) ∧ LLs w'.heap.size w' pv (nF G) (fun _ => sh.toNat * sh2.toNat) (cmpF G sh fp sh2 fp2)))
/-- the number that a round stores -/
theorem cmp_value {G : Gl} {sh sh2 : Int} {np np2 : Nat} {len len2 : Nat → Nat} {fp fp2 : Nat → Nat → Int} (hok : checkB G = true) (hcov : CovOK G sh np len fp) {H : Gl} (hH : H = covG G fp (fun k => invP (fp k) sh.toNat) sh.toNat) (hcov2 : CovOK H sh2 np2 len2 fp2)
    {s t : Nat} (hs : s = sh.toNat) (ht : t = sh2.toNat) {q f c m l : Nat} (hD : fD G (4 * G.n) (q, f) = some c) (hm : m < s) (hl : l < t) :
    (G.tet (4 * q + f) < 0 → fp c m = m ∧ cmpF G sh fp sh2 fp2 c (l * s + m) = ((l * s + m : Nat) : Int)) ∧
    (¬ G.tet (4 * q + f) < 0 → ∃ l' u' : Nat, l' < s ∧ u' < t ∧ fp c m = l' ∧ crF H fp2 (fun k => invP (fp2 k) t) (m * G.n + q) f l = u' ∧ cmpF G sh fp sh2 fp2 c (l * s + m) = ((u' * s + l' : Nat) : Int)) := by
  obtain ⟨j, hj, hje, hc, hf⟩ := fD_place hok hD
  obtain ⟨rfl, rfl⟩ : q = j / 4 ∧ f = j % 4 := by simpa using hje
  have ej : 4 * (j / 4) + j % 4 = j := by omega
  have hsh := hcov.sh
  have hsz := hcov.small.2
  have hsh2 := hcov2.sh
  subst hH
  rw [← hs] at hsh hsz hsh2
  rw [← ht] at hsh2
  rw [← hs, ej]
  unfold cmpF
  rw [← hs, ← ht, hc, eF_at hok hj hf]
  refine ⟨fun hn => ⟨?_, by unfold cmp; rw [if_pos hn]⟩, fun hn => ?_⟩
  · have := hcov.free (j / 4) (j % 4) (by rw [hD]; rfl) (by rw [ej]; exact hn) m (by omega)
    rwa [ej] at this
  · obtain ⟨l', u', a1, a2, a3, a4, a5, -⟩ := cmp_step hok hsh hsz hsh2 hj hn hm hl
    refine ⟨l', u', a1, a2, ?_, a4, a5⟩
    rw [← a3, crF_at hok _ _ (by omega) (by omega), ej, if_pos hf]
end Go.Proofs.Ytlckpgahijlmoaa
