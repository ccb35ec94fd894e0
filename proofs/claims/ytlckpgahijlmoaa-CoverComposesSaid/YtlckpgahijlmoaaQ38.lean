/- The searches for parts and for an orientation: what they keep. Plain laws. -/
import Derived.Test.YtlckpgahijlmoaaQ37
import Derived.Test.YtlckpgahijlmoaaQ25
import Derived.Test.YtlckpgahijlmoaaQ24
import Derived.Test.YtlckpgahijlmoaaQ26
/- R01.Parts of a valid gluing: its search, told by any invariant that its steps keep. -/
namespace Go.Proofs.Ytlckpgahijlmoaa
open Go.RowKit Go.Shelf

/-- the numbers of the parts and the list at hand, the row at d -/
structure PQR (w W : World) (N d n : Nat) (v qv : Value) (qs : List Nat) (h : Nat → Int) : Prop where
  own : W.ownsRow (d + 1) 3 1 qv qs.length (qs.map fun (q : Nat) => Value.int .i64 (q : Int))
  row : IntRow W d n h
  sv : ∀ j, j < n → -1 ≤ h j
  qlt : ∀ q ∈ qs, q < n
  cnt : qs.length ≤ nzc (fun j => h j + 1) n
  c0 : W.cell? ⟨N, 0, none⟩ = some v
  lt : N < d
  bel : Below N w W
theorem PQR.kept {w W W' : World} {N d n : Nat} {v qv : Value} {qs : List Nat} {h : Nat → Int} (hq : PQR w W N d n v qv qs h) (hg : W.grownBy W' none) : PQR w W' N d n v qv qs h :=
  ⟨hq.own.kept hg (by cases qv.ownBlock <;> simp), rowIs_kept hq.row hg (by simp), hq.sv, hq.qlt, hq.cnt, hg.cell hq.c0 (by simp), hq.lt, hq.bel.grown hg (by have := lt_of_cell hq.c0; simp only at this; omega) (fun k e => by cases e)⟩
theorem PQR.qcell {w W : World} {N d n : Nat} {v qv : Value} {qs : List Nat} {h : Nat → Int} (hq : PQR w W N d n v qv qs h) {k : Nat} (hk : k < qs.length) : ∃ g cap, qv = .slice (some ⟨g, 0, none⟩) qs.length cap ∧ W.cell? ⟨g, k, none⟩ = some (.int .i64 ((qs[k] : Nat) : Int)) ∧ qs[k] < n := by
  obtain ⟨g, cap, hv, _⟩ := hq.own.form (by omega)
  refine ⟨g, cap, hv, ?_, hq.qlt _ (List.getElem_mem hk)⟩
  have := hq.own.cells (g := g) (by rw [hv]; rfl) k (.int .i64 (qs[k] : Nat)) (by simp [hk])
  rwa [Addr.add_mid, Nat.zero_add] at this
/-- a tetrahedron is numbered and goes onto the list -/
theorem PQR.push {w W W2 w1 : World} {N d n g cap : Nat} {v qv : Value} {qs : List Nat} {h : Nat → Int} (hq : PQR w W N d n v qv qs h) {j : Nat} (hj : j < n) (h0 : h j < 0) {x : Int} (hx : 0 ≤ x) (hg : (W.setCell ⟨d, j, none⟩ (.int .i64 x)).grownBy W2 none)
    (a1 : w1.ownsRow (d + 1) 3 1 (.slice (some ⟨g, 0, none⟩) (qs.length + 1) cap) (qs.length + 1) ((qs.map fun (q : Nat) => Value.int .i64 (q : Int)) ++ [.int .i64 (j : Int)])) (a2 : W2.grownBy w1 qv.ownBlock) :
    PQR w w1 N d n v (.slice (some ⟨g, 0, none⟩) (qs.length + 1) cap) (qs ++ [j]) (fun i => if i = j then x else h i) := by
  have hlo : ∀ b, qv.ownBlock = some b → d + 1 ≤ b := fun b e => (hq.own.lt b e).1
  have hNd := hq.lt
  have n1 : some d ≠ qv.ownBlock := fun e => by have := hlo _ e.symm; omega
  have n0 : some N ≠ qv.ownBlock := fun e => by have := hlo _ e.symm; omega
  have hs := grownBy_setCell W d j (.int .i64 x)
  have h1 : (W.setCell ⟨d, j, none⟩ (.int .i64 x)).rowIs d 3 n (fun i => .int .i64 (if i = j then x else h i)) := (hq.row.set j _).congr (fun i _ => by by_cases e : i = j <;> simp [e])
  have hm1 : h j = -1 := by have := hq.sv j hj; omega
  refine ⟨by simpa using a1, rowIs_kept (rowIs_kept h1 hg (by simp)) a2 n1, fun i hi => ?_, fun q hm => ?_, ?_, a2.cell (hg.cell (hs.cell hq.c0 (by simp; omega)) (by simp)) n0, hq.lt, ?_⟩
  · by_cases e : i = j
    · simp only [e, if_true]; omega
    · simp only [e, if_false]; exact hq.sv i hi
  · rcases List.mem_append.1 hm with q1 | q1
    · exact hq.qlt q q1
    · simp at q1; omega
  · have e : (fun i => (if i = j then x else h i) + 1) = fun i => if i = j then x + 1 else h i + 1 := by
      funext i; split <;> rfl
    rw [e, nzc_set (s := fun i => h i + 1) hj (by omega) (by omega)]
    have := hq.cnt
    simp; omega
  · have hN := lt_of_cell hq.c0
    simp only at hN
    have hz := hg.size
    simp at hz
    exact ((hq.bel.setCell (by show N ≤ d; omega) _).grown hg (by simp; omega) (fun k e => by cases e)).grown a2 (by omega) (fun k e => by have := hlo k e; omega)

end Go.Proofs.Ytlckpgahijlmoaa
namespace Go.Proofs.Ytlckpgahijlmoaa

/-- the part of t under search: qs are met, the faces of the first j of them are done -/
structure SQ (G : Gl) (t : Nat) (qs : List Nat) (j : Nat) : Prop where
  root : ptR G t = t
  lt : t < G.n
  mem : t ∈ qs
  of : ∀ x ∈ qs, x < G.n ∧ ptR G x = t
  clo : ∀ i q, i < j → qs[i]? = some q → ∀ f, f < 4 → ¬ G.tet (4 * q + f) < 0 → G.T (4 * q + f) ∈ qs
/-- and the faces below f of q -/
structure SF (G : Gl) (t : Nat) (qs : List Nat) (j q f : Nat) : Prop extends SQ G t qs j where
  at_ : qs[j]? = some q
  clf : ∀ f', f' < f → ¬ G.tet (4 * q + f') < 0 → G.T (4 * q + f') ∈ qs
/-- the numbers that the parts before t have, and the members met -/
def HV (G : Gl) (val : Nat → Int) (z : Int) (t : Nat) (qs : List Nat) (h : Nat → Int) : Prop := ∀ u, u < G.n → h u = if ptR G u < t ∨ u ∈ qs then val u else z

section
variable {G : Gl} (hok : checkB G = true)
include hok
theorem pt_pr : PR G.n (ptR G) := pt_reps hok _ (Nat.le_refl _)
theorem pt_le {x : Nat} (hx : x < G.n) : ptR G x ≤ x := by obtain ⟨u, hu⟩ := pt_pr hok; exact hu.rle x hx
theorem pt_idem {x : Nat} (hx : x < G.n) : ptR G (ptR G x) = ptR G x := by obtain ⟨u, hu⟩ := pt_pr hok; exact hu.idem x hx
theorem pt_next {q f : Nat} (hq : q < G.n) (hf : f < 4) (ht : ¬ G.tet (4 * q + f) < 0) : ptR G (G.T (4 * q + f)) = ptR G q := by
  have _ := hok
  have := pt_face (G := G) (4 * G.n) (4 * q + f) (by omega) ht
  rw [show (4 * q + f) / 4 = q by omega] at this
  exact this.symm
theorem SQ.new {t : Nat} (hr : ptR G t = t) (ht : t < G.n) : SQ G t [t] 0 := have _ := hok; ⟨hr, ht, by simp, fun x hx => by simp at hx; subst hx; exact ⟨ht, hr⟩, fun i q hi => by omega⟩
omit hok in
theorem SQ.row {t : Nat} {qs : List Nat} {j q : Nat} (h : SQ G t qs j) (hq : qs[j]? = some q) : SF G t qs j q 0 := ⟨h, hq, fun f' hf => by omega⟩
omit hok in
theorem SF.skip {t : Nat} {qs : List Nat} {j q f : Nat} (h : SF G t qs j q f) (ht : ¬ G.tet (4 * q + f) < 0 → G.T (4 * q + f) ∈ qs) : SF G t qs j q (f + 1) := ⟨h.1, h.at_, fun f' hf hn => by
  by_cases e : f' = f
  · subst e; exact ht hn
  · exact h.clf f' (by omega) hn⟩
theorem SF.push {t : Nat} {qs : List Nat} {j q f : Nat} (h : SF G t qs j q f) (hf : f < 4) (ht : ¬ G.tet (4 * q + f) < 0) : SF G t (qs ++ [G.T (4 * q + f)]) j q (f + 1) := by
  have hq := h.of q (List.mem_of_getElem? h.at_)
  have hT := (ok_face hok (show 4 * q + f < 4 * G.n by omega) ht).2.1
  have hjl : j < qs.length := (List.getElem?_eq_some_iff.1 h.at_).1
  refine ⟨⟨h.root, h.lt, by simp [h.mem], fun x hx => ?_, fun i r hi hr f' hf' hn => ?_⟩, by rw [List.getElem?_append_left hjl]; exact h.at_, fun f' hf' hn => ?_⟩
  · rcases List.mem_append.1 hx with e | e
    · exact h.of x e
    · simp at e; subst e; exact ⟨hT, by rw [pt_next hok hq.1 hf ht]; exact hq.2⟩
  · rw [List.getElem?_append_left (by omega)] at hr
    exact List.mem_append_left _ (h.clo i r hi hr f' hf' hn)
  · by_cases e : f' = f
    · subst e; simp
    · exact List.mem_append_left _ (h.clf f' (by omega) hn)
omit hok in
theorem SF.next {t : Nat} {qs : List Nat} {j q : Nat} (h : SF G t qs j q 4) : SQ G t qs (j + 1) := ⟨h.root, h.lt, h.mem, h.of, fun i r hi hr f hf hn => by
  by_cases e : i = j
  · subst e
    rw [h.at_] at hr
    cases hr
    exact h.clf f hf hn
  · exact h.clo i r (by omega) hr f hf hn⟩
/-- at the end all members are met -/
theorem SQ.all {t : Nat} {qs : List Nat} (h : SQ G t qs qs.length) {u : Nat} (hu : u < G.n) (hr : ptR G u = t) : u ∈ qs := by
  have cl : ∀ q f, q ∈ qs → f < 4 → ¬ G.tet (4 * q + f) < 0 → G.T (4 * q + f) ∈ qs := fun q f hq hf hn => by
    obtain ⟨i, hi, he⟩ := List.getElem_of_mem hq
    exact h.clo i q hi (by rw [← he]; exact List.getElem?_eq_getElem hi) f hf hn
  have := pt_closed hok (p := fun x => x ∈ qs) (fun k hk hn => ?_) (4 * G.n) (Nat.le_refl _) u hu
  · rw [this]; show ptR G u ∈ qs; rw [hr]; exact h.mem
  · constructor
    · intro hm
      have := cl (k / 4) (k % 4) hm (by omega)
      rw [show 4 * (k / 4) + k % 4 = k by omega] at this
      exact this hn
    · intro hm
      obtain ⟨b1, b2, b3, -⟩ := ok_back hok hk hn
      have hp := ((ok_face hok hk hn).2.2 (k % 4) (by omega)).2
      have := cl (G.T k) (G.P k (k % 4)) hm hp b2
      rw [b3] at this
      exact this
variable {val : Nat → Int} {z : Int}
omit hok in
theorem HV.zero : HV G val z 0 [] (fun _ => z) := fun u hu => by simp
theorem HV.met {t : Nat} {h : Nat → Int} (hh : HV G val z t [] h) (ht : t < G.n) (hne : h t ≠ z) : ptR G t ≠ t ∧ HV G val z (t + 1) [] h := by
  have h1 := hh t ht
  have hlt : ptR G t < t := by
    by_cases e : ptR G t < t
    · exact e
    · simp [e] at h1; exact absurd h1 hne
  refine ⟨by omega, fun u hu => ?_⟩
  rw [hh u hu]
  have : ptR G u < t ↔ ptR G u < t + 1 := by
    constructor
    · intro; omega
    · intro hlt2
      by_cases e : ptR G u = t
      · have := pt_idem hok hu; rw [e] at this; omega
      · omega
  simp [this]
theorem HV.new {t : Nat} {h : Nat → Int} (hz : ∀ u, u < G.n → val u ≠ z) (hh : HV G val z t [] h) (ht : t < G.n) (he : h t = z) : ptR G t = t ∧ HV G val z t [t] (fun i => if i = t then val t else h i) := by
  have h1 := hh t ht
  have hle := pt_le hok ht
  have hr : ptR G t = t := by
    by_cases e : ptR G t < t
    · simp [e] at h1; exact absurd (h1.symm.trans he) (hz t ht)
    · omega
  refine ⟨hr, fun u hu => ?_⟩
  by_cases e : u = t
  · subst e; simp
  · simp only [e, if_false, List.mem_singleton, or_false]
    rw [hh u hu]; simp
theorem HV.same {t : Nat} {h : Nat → Int} {qs : List Nat} {j q f : Nat} (hh : HV G val z t qs h) (hs : SF G t qs j q f) (hf : f < 4) (ht : ¬ G.tet (4 * q + f) < 0) (hne : h (G.T (4 * q + f)) ≠ z) : G.T (4 * q + f) ∈ qs := by
  have hq := hs.of q (List.mem_of_getElem? hs.at_)
  have hT := (ok_face hok (show 4 * q + f < 4 * G.n by omega) ht).2.1
  have h1 := hh _ hT
  by_cases e : G.T (4 * q + f) ∈ qs
  · exact e
  · rw [if_neg (by rw [pt_next hok hq.1 hf ht, hq.2]; simp [e])] at h1
    exact absurd h1 hne
omit hok in
theorem HV.push {t : Nat} {h : Nat → Int} {qs : List Nat} {x : Nat} (hh : HV G val z t qs h) : HV G val z t (qs ++ [x]) (fun i => if i = x then val x else h i) := fun u hu => by
  by_cases e : u = x
  · subst e; simp
  · simp only [e, if_false]
    rw [hh u hu]; simp [e]
theorem HV.done {t : Nat} {h : Nat → Int} {qs : List Nat} (hh : HV G val z t qs h) (hs : SQ G t qs qs.length) : HV G val z (t + 1) [] h := fun u hu => by
  rw [hh u hu]
  have : (ptR G u < t ∨ u ∈ qs) ↔ (ptR G u < t + 1 ∨ u ∈ ([] : List Nat)) := by
    constructor
    · rintro (h | h)
      · exact .inl (by omega)
      · exact .inl (by have := (hs.of u h).2; omega)
    · rintro (h | h)
      · by_cases e : ptR G u = t
        · exact .inr (hs.all hok hu e)
        · exact .inl (by omega)
      · cases h
  simp only [this]
end

/-- the greatest number of a part, and one more -/
def mxF (h : Nat → Int) : Nat → Int
  | 0 => 0
  | k + 1 => max (mxF h k) (h k + 1)
theorem mx_cnt {r : Nat → Nat} {n : Nat} (hr : PR n r) {h : Nat → Int} (hh : ∀ u, u < n → h u = (cnt r (r u) : Nat)) : ∀ k, k ≤ n → mxF h k = (cnt r k : Nat)
  | 0, _ => rfl
  | k + 1, hk => by
    have ih := mx_cnt hr hh k (by omega)
    obtain ⟨u, hu⟩ := hr
    have hle := hu.rle k (by omega)
    have hid := hu.idem k (by omega)
    rw [mxF, ih, hh k (by omega)]
    by_cases e : r k = k
    · simp only [cnt, e, if_true]; omega
    · have h1 := cnt_mono r (show r k + 1 ≤ k by omega)
      simp only [cnt, hid, if_true] at h1
      simp only [cnt, e, if_false]; omega
end Go.Proofs.Ytlckpgahijlmoaa
